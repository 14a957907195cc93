/- Copies of a tree, equal lists of numbers, the reference paths (functions 5, 6, 8, 9, 12, 14, 15, 19). -/
import Derived.Test.YtokphbpgblhakaaTb
import Derived.KernelRfl
import Derived.Maps.AppendAt
namespace Go.Proofs.Ytokphbpgblhakaa
open Go.RowKit

theorem ret_bool {a b : Bool} (h : a = b) : Ending.returned (Value.bool a) = .returned (.bool b) := by rw [h]
theorem ret_slice {a : Option Addr} {n m c : Nat} (h : n = m) : Ending.returned (Value.slice a n c) = .returned (.slice a m c) := by rw [h]
theorem ret_int {k : IntKind} {a b : Int} (h : a = b) : Ending.returned (Value.int k a) = .returned (.int k b) := by rw [h]

def ndCells (d : Nd) : List Value := [.int .i64 d.par, .int .i64 d.tok, .int .i64 d.dep]
def cellsOfT (T : Nat → Nd) (n : Nat) : List Value := (List.range n).flatMap fun i => ndCells (T i)
theorem cellsOfT_succ (T : Nat → Nd) (n : Nat) : cellsOfT T (n + 1) = cellsOfT T n ++ ndCells (T n) := by simp [cellsOfT, List.range_succ]
theorem cellsOfT_length (T : Nat → Nd) (n : Nat) : (cellsOfT T n).length = n * 3 := by
  induction n with
  | zero => rfl
  | succ n ih => rw [cellsOfT_succ, List.length_append, ih]; simp [ndCells]; omega
theorem cellsOfT_get (T : Nat → Nd) (n i : Nat) (h : i < n) : (cellsOfT T n)[i * 3]? = some (.int .i64 (T i).par) ∧ (cellsOfT T n)[i * 3 + 1]? = some (.int .i64 (T i).tok) ∧ (cellsOfT T n)[i * 3 + 2]? = some (.int .i64 (T i).dep) := by
  induction n with
  | zero => omega
  | succ n ih =>
    have hl := cellsOfT_length T n
    rw [cellsOfT_succ]
    rcases Nat.lt_or_ge i n with h1 | h1
    · obtain ⟨a, b, c⟩ := ih h1
      rw [List.getElem?_append_left (by omega), List.getElem?_append_left (by omega), List.getElem?_append_left (by omega)]
      exact ⟨a, b, c⟩
    · obtain rfl : i = n := by omega
      rw [List.getElem?_append_right (by omega), List.getElem?_append_right (by omega), List.getElem?_append_right (by omega), hl]
      simp [ndCells, show i * 3 + 1 - i * 3 = 1 from by omega, show i * 3 + 2 - i * 3 = 2 from by omega]

theorem info43 : (Try.prog.info? 43).map (fun i => (i.zero, i.size, i.bytes)) = some (some (.agg #[.int .i64 0, .int .i64 0, .int .i64 0]), 3, 24) := by kernel_rfl
theorem nd_oneCell (d : Nd) : ∀ u ∈ ndCells d, u.oneCell' = true := by intro u hu; simp [ndCells] at hu; rcases hu with rfl | rfl | rfl <;> rfl
theorem cell_three_new (w : World) (x y z : Value) (t : TypeId) : ∀ j u, [x, y, z][j]? = some u → (w.alloc (.cells #[x, y, z] t)).cell? ((⟨w.heap.size, 0, none⟩ : Addr).add j) = some u := by
  intro j u hj
  match j, hj with
  | 0, hj => simp at hj; subst hj; simp [Addr.add]
  | 1, hj => simp at hj; subst hj; simp [Addr.add]
  | 2, hj => simp at hj; subst hj; simp [Addr.add]
  | j + 3, hj => simp at hj

set_option maxRecDepth 100000 in
set_option maxHeartbeats 1000000 in
theorem copyNodes_any (A : Option Addr) (n c : Nat) (T : Nat → Nd) (w : World) (hn : n * 24 ≤ 140737488351232) (hT : TreeAt w A n T) :
    Calls Try.prog 12 #[.slice A n c] w fun e w' => ∃ v, e = .returned v ∧ w'.ownsRow w.heap.size 43 3 v n (cellsOfT T n) ∧ Chg NoB w w' := by
  obtain ⟨i0, hi, hz0, hz1, hz2⟩ := info_parts info43
  go_enter Try.func12, Try.ntmps12
  go_wp2
  go_loopw [3, 4] (fun v s4 wr => ∃ i : Nat, i ≤ n ∧ s4 = .int .i64 i ∧ wr.ownsRow w.heap.size 43 3 v i (cellsOfT T i) ∧ Chg NoB w wr) (fun _ s4 _ => n - (intOf s4).toNat)
  case atStart => exact ⟨0, Nat.zero_le _, rfl, World.ownsRow_nil _ _ _ _, Chg.refl _ _⟩
  case round =>
    obtain ⟨i, hin, rfl, hown, hch⟩ := hrel
    by_cases hlt : i < n
    · obtain ⟨b, off, rfl, hc⟩ := hT (by omega)
      have hNb : ¬ NoB b := fun h => h
      have ci0 := hch.cell (hc i hlt).1 hNb
      have ci1 := hch.cell (hc i hlt).2.1 hNb
      have ci2 := hch.cell (hc i hlt).2.2 hNb
      have Hc := Lib.hid hc
      have HT := Lib.hid hT
      clear hc hT
      go_wp2_with (first
        | (at_builtin; refine wpList_append_own _ rfl _ _ 22 rfl w.heap.size 43 i0 _ 3 24 Try.underlying22 hi hz0 hz1 hz2 rfl (by decide) _ _ _ rfl (hown.alloc _) ⟨wr.heap.size, 0, none⟩ 1 1 (ndCells (T i)) rfl rfl ?c1 ?c2 ?c3 ?c4 ?c5 ?_)
        | go_in)
      case c1 => exact cell_three_new _ _ _ _ _
      case c2 => exact nd_oneCell _
      case c3 => unfold maxLen; omega
      case c4 => omega
      case c5 => have := hch.size; simp; omega
      intro v' w1 hown' hgrow _
      have hch' : Chg NoB w w1 := (hch.alloc _).grown hgrow (fun k hk h => by
        have := (hown.lt k hk).1; omega)
      rw [← cellsOfT_succ] at hown'
      have Ho := Lib.hid hown'
      clear hown' hgrow hown ci0 ci1 ci2
      go_wp2
      go_roundw
      case rel => exact ⟨i + 1, by omega, by go_num, Ho.out, hch'⟩
      case measure => simp [intOf]; omega
    · obtain rfl : i = n := by omega
      go_wp2
      go_ret
      exact ⟨_, rfl, hown, hch⟩

def markCells : List Value := [.int .i64 (-75), .int .i64 (-76), .int .i64 (-77)]

set_option maxRecDepth 100000 in
set_option maxHeartbeats 1000000 in
theorem spareNodes_any (A : Option Addr) (n c : Nat) (T : Nat → Nd) (w : World) (hn : n * 24 ≤ 140737488351232) (hT : TreeAt w A n T) :
    Calls Try.prog 5 #[.slice A n c] w fun e w' => ∃ g cap, e = .returned (.slice (some ⟨g, 0, none⟩) n cap) ∧ w.heap.size ≤ g ∧ Row w' g 43 3 (n + 1) cap (cellsOfT T n ++ markCells) ∧ Chg NoB w w' := by
  obtain ⟨i0, hi, hz0, hz1, hz2⟩ := info_parts info43
  go_enter Try.func5, Try.ntmps5
  go_wp2_with fail
  refine (copyNodes_any A n c T w hn hT).mono ?_
  rintro e w1 ⟨v, rfl, hown, hch⟩
  have Hown := Lib.hid hown
  go_wp2_with (first
    | (at_builtin; refine wpList_append_own _ rfl _ _ 22 rfl w.heap.size 43 i0 _ 3 24 Try.underlying22 hi hz0 hz1 hz2 rfl (by decide) _ _ _ rfl (hown.alloc _) ⟨w1.heap.size, 0, none⟩ 1 1 markCells rfl rfl ?c1 ?c2 ?c3 ?c4 ?c5 ?_)
    | go_in)
  case c1 => exact cell_three_new _ _ _ _ _
  case c2 => intro u hu; simp [markCells] at hu; rcases hu with rfl | rfl | rfl <;> rfl
  case c3 => unfold maxLen; omega
  case c4 => omega
  case c5 => have := hch.size; simp; omega
  intro v' w2 hown' hgrow _
  obtain ⟨g, cap, rfl⟩ := ownsRow_succ hown'
  obtain ⟨hg, hrow⟩ := Row.of_owns hown'
  have hcap := hrow.cap
  have hcn : n ≤ cap := by omega
  have hch' : Chg NoB w w2 := (hch.alloc _).grown hgrow (fun k hk h => by
    have := (Hown.out.lt k hk).1; omega)
  unfold maxLen at hcap
  have Hrow := Lib.hid hrow
  clear hown' hown hrow hgrow
  go_wp2
  go_ret
  exact ⟨g, cap, rfl, hg, Hrow.out, hch'⟩

theorem treeAt_of_row {w : World} {g n m cap : Nat} {T : Nat → Nd} {xs : List Value} (h : Row w g 43 3 m cap (cellsOfT T n ++ xs)) : TreeAt w (some ⟨g, 0, none⟩) n T := fun _ => by
  refine ⟨g, 0, rfl, fun i hi => ?_⟩
  have hl := cellsOfT_length T n
  obtain ⟨a, b, c⟩ := cellsOfT_get T n i hi
  simp only [Nat.zero_add]
  exact ⟨h.cell (by rw [List.getElem?_append_left (by omega)]; exact a), h.cell (by rw [List.getElem?_append_left (by omega)]; exact b), h.cell (by rw [List.getElem?_append_left (by omega)]; exact c)⟩

set_option maxRecDepth 100000 in
set_option maxHeartbeats 1000000 in
theorem eqNodes_yes (A B : Option Addr) (n c d : Nat) (T : Nat → Nd) (w : World) (hn : n * 24 ≤ 140737488351232) (hA : TreeAt w A n T) (hB : TreeAt w B n T) :
    Calls Try.prog 19 #[.slice A n c, .slice B n d] w fun e w' => e = .returned (.bool true) ∧ Chg NoB w w' := by
  go_enter Try.func19, Try.ntmps19
  go_wp2
  go_loopw [5] (fun i wr => ∃ k m : Nat, k ≤ n ∧ i = .int .i64 k ∧ wr = w.drewN m) (fun i _ => n - (intOf i).toNat)
  case atStart => exact ⟨0, 0, Nat.zero_le _, rfl, rfl⟩
  case round =>
    obtain ⟨k, m, hk, rfl, rfl⟩ := hrel
    by_cases hlt : k < n
    · obtain ⟨b1, o1, rfl, h1⟩ := hA (by omega)
      obtain ⟨b2, o2, rfl, h2⟩ := hB (by omega)
      obtain ⟨a0, a1, a2⟩ := h1 k hlt
      obtain ⟨d0, d1, d2⟩ := h2 k hlt
      have hkn : (k : Int) < (n : Int) := by omega
      generalize (T k).par = x at *
      generalize (T k).tok = y at *
      generalize (T k).dep = z at *
      clear h1 h2 hA hB
      go_wp2
      go_quiet (fail)
      go_wp2
      go_roundw
      case rel => exact ⟨k + 1, _, by omega, by go_num, rfl⟩
      case measure => simp [intOf]; omega
    · go_wp2
      go_ret
      exact ⟨rfl, (Chg.refl _ _).drewN _⟩

/-- a slice of ints -/
def IntsAt (w : World) (A : Option Addr) (n : Nat) (f : Nat → Int) : Prop :=
  0 < n → ∃ b off, A = some ⟨b, off, none⟩ ∧ ∀ j, j < n → w.cell? ⟨b, off + j, none⟩ = some (.int .i64 (f j))

set_option maxHeartbeats 400000 in
theorem eqInts_yes (A B : Option Addr) (n c d : Nat) (f : Nat → Int) (w : World) (hn : n * 8 ≤ 140737488355328) (ha : IntsAt w A n f) (hb : IntsAt w B n f) :
    Calls Try.prog 8 #[.slice A n c, .slice B n d] w fun e w' => e = .returned (.bool true) ∧ Chg NoB w w' := by
  go_enter Try.func8, Try.ntmps8
  go_wp2
  go_loopw [5] (fun i wr => ∃ k m : Nat, k ≤ n ∧ i = .int .i64 k ∧ wr = w.drewN m) (fun i _ => n - (intOf i).toNat)
  case atStart => exact ⟨0, 0, Nat.zero_le _, rfl, rfl⟩
  case round =>
    obtain ⟨k, m, hk, rfl, rfl⟩ := hrel
    by_cases hlt : k < n
    · obtain ⟨b1, o1, rfl, h1⟩ := ha (by omega)
      obtain ⟨b2, o2, rfl, h2⟩ := hb (by omega)
      have c1 := h1 k hlt
      have c2 := h2 k hlt
      have hkn : (k : Int) < (n : Int) := by omega
      generalize f k = x at *
      clear h1 h2 ha hb
      go_wp2
      go_quiet (fail)
      go_wp2
      go_roundw
      case rel => exact ⟨k + 1, _, by omega, by go_num, rfl⟩
      case measure => simp [intOf]; omega
    · go_wp2
      go_ret
      exact ⟨rfl, (Chg.refl _ _).drewN _⟩

set_option maxRecDepth 100000 in
set_option maxHeartbeats 1000000 in
theorem nodesStay_yes (A : Option Addr) (g n c cap : Nat) (T : Nat → Nd) (w : World) (hn : n * 24 ≤ 140737488351232) (hA : TreeAt w A n T) (hrow : Row w g 43 3 (n + 1) cap (cellsOfT T n ++ markCells)) :
    Calls Try.prog 9 #[.slice (some ⟨g, 0, none⟩) n cap, .slice A n c] w fun e w' => e = .returned (.bool true) ∧ Chg NoB w w' := by
  have hcap := hrow.cap
  unfold maxLen at hcap
  obtain ⟨hcap1, hcap2⟩ := hcap
  have hB := treeAt_of_row hrow
  have hl := cellsOfT_length T n
  have m0 := hrow.cell (j := n * 3) (v := .int .i64 (-75)) (by rw [List.getElem?_append_right (by omega), hl]; simp [markCells])
  have m1 := hrow.cell (j := n * 3 + 1) (v := .int .i64 (-76)) (by rw [List.getElem?_append_right (by omega), hl]; simp [markCells, show n * 3 + 1 - n * 3 = 1 from by omega])
  have m2 := hrow.cell (j := n * 3 + 2) (v := .int .i64 (-77)) (by rw [List.getElem?_append_right (by omega), hl]; simp [markCells, show n * 3 + 2 - n * 3 = 2 from by omega])
  have hch : ∀ (w' : World), Chg NoB w w' → w'.cell? ⟨g, n * 3, none⟩ = some (.int .i64 (-75)) ∧ w'.cell? ⟨g, n * 3 + 1, none⟩ = some (.int .i64 (-76)) ∧ w'.cell? ⟨g, n * 3 + 2, none⟩ = some (.int .i64 (-77)) :=
    fun w' hc => ⟨hc.cell m0 (fun h => h), hc.cell m1 (fun h => h), hc.cell m2 (fun h => h)⟩
  have Hch := Lib.hid hch
  have HA := Lib.hid hA
  have HB := Lib.hid hB
  clear hch hrow m0 m1 m2 hl hA hB
  go_enter Try.func9, Try.ntmps9
  go_wp2_with fail
  refine (eqNodes_yes (some ⟨g, 0, none⟩) A n cap c T w hn HB.out HA.out).mono ?_
  rintro e w1 ⟨rfl, hc1⟩
  obtain ⟨n0, n1, n2⟩ := Hch.out w1 hc1
  go_wp2
  go_ret
  exact ⟨rfl, hc1⟩

set_option maxRecDepth 100000 in
theorem leaf_any (A : Option Addr) (n c i : Nat) (T : Nat → Nd) (w : World) (hn : n * 24 ≤ 140737488351232) (hA : TreeAt w A n T) :
    Calls Try.prog 14 #[.slice A n c, .int .i64 i] w fun e w' => e = .returned (.bool (leafAt T n i)) ∧ w = w' := by
  go_enter Try.func14, Try.ntmps14
  go_wp2
  go_loop [5] (fun s5 => ∃ k : Nat, k ≤ n ∧ s5 = .int .i64 k ∧ ∀ j, j < k → (T j).par ≠ (i : Int)) (fun s5 => n - (intOf s5).toNat)
  case atStart => exact ⟨0, Nat.zero_le _, rfl, fun j h => by omega⟩
  case round =>
    obtain ⟨k, hk, rfl, hno⟩ := hrel
    have Hno := Lib.hid hno
    clear hno
    by_cases hlt : k < n
    · obtain ⟨b1, o1, rfl, h1⟩ := hA (by omega)
      have c0 := (h1 k hlt).1
      have hkn : (k : Int) < (n : Int) := by omega
      obtain ⟨pk, hpk⟩ : ∃ x, x = (T k).par := ⟨_, rfl⟩
      rw [← hpk] at c0
      have Hpk := Lib.hid hpk
      clear hpk h1 hA
      by_cases e : pk = (i : Int)
      · have e' : (pk == (i : Int)) = true := by simpa using e
        have E := Lib.hid e
        clear e
        go_wp2
        go_ret
        have : leafAt T n i = false := by
          rw [← Bool.not_eq_true, leafAt_iff]
          exact fun h => h k hlt (by rw [← Hpk.out]; exact E.out)
        exact ⟨ret_bool this.symm, rfl⟩
      · have e' : (pk == (i : Int)) = false := by simpa using e
        have E := Lib.hid e
        clear e
        go_wp2
        go_round
        case rel => exact ⟨k + 1, by omega, by go_num, fun j hj => by
          rcases Nat.lt_or_ge j k with h | h
          · exact Hno.out j h
          · obtain rfl : j = k := by omega
            rw [← Hpk.out]; exact E.out⟩
        case measure => simp [intOf]; omega
    · obtain rfl : k = n := by omega
      have : leafAt T k i = true := (leafAt_iff _ _ _).2 Hno.out
      have H := Lib.hid this
      clear this
      go_wp2
      go_ret
      exact ⟨ret_bool H.out.symm, rfl⟩

def wayVals (l : List Nat) : List Value := l.map fun x : Nat => Value.int .i64 (x : Int)
theorem info3 : (Try.prog.info? 3).map (fun i => (i.zero, i.size, i.bytes)) = some (some (.int .i64 0), 1, 8) := by kernel_rfl

set_option maxRecDepth 100000 in
set_option maxHeartbeats 1000000 in
theorem way_any (A : Option Addr) (n c : Nat) (T : Nat → Nd) (hn : n * 24 ≤ 140737488351232) (hok : okTree T n) : ∀ (i : Nat) (w : World), i < n → TreeAt w A n T →
    Calls Try.prog 15 #[.slice A n c, .int .i64 i] w fun e w' => ∃ g cap, e = .returned (.slice (some ⟨g, 0, none⟩) (way T i).length cap) ∧ w.heap.size ≤ g ∧ Row w' g 3 1 (way T i).length cap (wayVals (way T i)) ∧ Chg NoB w w' := by
  intro i
  induction i using Nat.strongRecOn with
  | _ i ih =>
    intro w hi hA
    rcases Nat.eq_zero_or_pos i with rfl | hp
    · have hr : Row (w.alloc (.cells #[.int .i64 0] 3)) w.heap.size 3 1 1 1 [.int .i64 0] := ⟨rfl, #[.int .i64 0], World.alloc_heap_new w _, Nat.le_refl _, by unfold maxLen; omega, rfl, rfl⟩
      have Hr := Lib.hid hr
      clear hr
      go_enter Try.func15, Try.ntmps15
      go_wp2
      go_ret
      rw [way_zero]
      exact ⟨w.heap.size, 1, rfl, Nat.le_refl _, Hr.out, (Chg.refl _ _).alloc _⟩
    · obtain ⟨e1, e2, e3⟩ := dep_par T n hok hp hi
      obtain ⟨p, hpp⟩ : ∃ p : Nat, (T i).par = p := ⟨(T i).par.toNat, by omega⟩
      rw [hpp] at e3
      simp only [Int.toNat_natCast] at e3
      have hlen := (dep_of T n hok i hi)
      have hb := hok.2.1
      have hw : way T i = way T p ++ [i] := by have := way_succ T hp (by rw [hpp]; simpa using e3); rwa [hpp, Int.toNat_natCast] at this
      obtain ⟨b, off, rfl, hc⟩ := hA (by omega)
      have c0 := (hc i hi).1
      rw [hpp] at c0
      have hin : (i : Int) < (n : Int) := by omega
      have hi0 : decide ((i : Int) ≤ 0) = false := by simp; omega
      have Hw := Lib.hid hw
      have Hl := Lib.hid hlen
      clear hw hc hpp e1 e2 hlen
      obtain ⟨i0, hi, hz0, hz1, hz2⟩ := info_parts info3
      go_enter Try.func15, Try.ntmps15
      go_wp2_with fail
      refine (ih p e3 w (by omega) hA).mono ?_
      rintro e w1 ⟨g, cap, rfl, hg, hrow, hch⟩
      have hl2 : (way T p).length + 1 = (way T i).length := by rw [Hw.out]; simp
      have hl3 : (way T p).length < 33 := by have := Hl.out; omega
      have HL2 := Lib.hid hl2
      have hown := hrow.owns hg
      have Hrow := Lib.hid hrow
      clear hl2 hrow
      go_wp2_with (first
        | (at_builtin; refine wpList_append_own _ rfl _ _ 29 rfl w.heap.size 3 i0 _ 1 8 Try.underlying29 hi hz0 hz1 hz2 rfl (by decide) _ _ _ rfl (hown.alloc _) ⟨w1.heap.size, 0, none⟩ 1 1 [.int .i64 i] rfl rfl ?c1 ?c2 ?c3 ?c4 ?c5 ?_)
        | go_in)
      case c1 => exact cell_one_new _ _ _
      case c2 => intro u hu; simp at hu; subst hu; rfl
      case c3 => unfold maxLen; omega
      case c4 => omega
      case c5 => have := hch.size; simp; omega
      intro v' w2 hown' hgrow _
      obtain ⟨g', cap', rfl⟩ := ownsRow_succ hown'
      obtain ⟨hg', hrow'⟩ := Row.of_owns hown'
      have hch' : Chg NoB w w2 := (hch.alloc _).grown hgrow (fun k hk h => by simp [Value.ownBlock] at hk; omega)
      have Hrow' := Lib.hid hrow'
      clear hown' hown hgrow hrow'
      go_wp2
      go_ret
      have hr := Hrow'.out
      rw [HL2.out, show wayVals (way T p) ++ [.int .i64 (i : Int)] = wayVals (way T i) from by rw [Hw.out]; simp [wayVals]] at hr
      exact ⟨g', cap', ret_slice HL2.out, hg', hr, hch'⟩

/-- vals are slices that read as the lists of ls, each in a row of its own beyond base -/
def Lists (w : World) (base : Nat) (vals : List Value) (ls : List (List Nat)) : Prop :=
  vals.length = ls.length ∧ ∀ (j : Nat) (l : List Nat), ls[j]? = some l → ∃ g cap : Nat, vals[j]? = some (Value.slice (some ⟨g, 0, none⟩) l.length cap) ∧ base ≤ g ∧ Row w g 3 1 l.length cap (wayVals l)
theorem Lists.nil (w : World) (base : Nat) : Lists w base [] [] := ⟨rfl, fun j l h => by simp at h⟩
theorem Lists.chg {w w' : World} {base : Nat} {vals : List Value} {ls : List (List Nat)} (h : Lists w base vals ls) {S : Nat → Prop} (hc : Chg S w w') (hS : ∀ g cur, w.heap[g]? = some (.cells cur 3 (0, 0)) → base ≤ g → ¬ S g) : Lists w' base vals ls :=
  ⟨h.1, fun j l hj => by
    obtain ⟨g, cap, hv, hb, hr⟩ := h.2 j l hj
    have hr' := hr
    obtain ⟨_, cur, hg, _⟩ := hr'
    exact ⟨g, cap, hv, hb, hr.chg hc (hS g cur hg hb)⟩⟩
theorem Lists.snoc {w : World} {base : Nat} {vals : List Value} {ls : List (List Nat)} (h : Lists w base vals ls) {l : List Nat} {g cap : Nat} (hb : base ≤ g) (hr : Row w g 3 1 l.length cap (wayVals l)) :
    Lists w base (vals ++ [.slice (some ⟨g, 0, none⟩) l.length cap]) (ls ++ [l]) := by
  refine ⟨by simp [h.1], fun j l' hj => ?_⟩
  rcases Nat.lt_or_ge j ls.length with hlt | hge
  · rw [List.getElem?_append_left hlt] at hj
    rw [List.getElem?_append_left (by rw [h.1]; exact hlt)]
    exact h.2 j l' hj
  · rw [List.getElem?_append_right hge] at hj
    rw [List.getElem?_append_right (by rw [h.1]; exact hge), h.1]
    obtain ⟨h0, rfl⟩ : j - ls.length = 0 ∧ l = l' := by
      rcases Nat.eq_zero_or_pos (j - ls.length) with e | e
      · rw [e] at hj; exact ⟨e, by simpa using hj⟩
      · rw [List.getElem?_eq_none (by simp; omega)] at hj; cases hj
    rw [h0]
    exact ⟨g, cap, rfl, hb, hr⟩
theorem Lists.at_ {w : World} {base : Nat} {vals : List Value} {ls : List (List Nat)} (h : Lists w base vals ls) {j : Nat} {l : List Nat} (hj : ls[j]? = some l) :
    ∃ g cap : Nat, vals[j]? = some (Value.slice (some ⟨g, 0, none⟩) l.length cap) ∧ base ≤ g ∧ Row w g 3 1 l.length cap (wayVals l) := h.2 j l hj

theorem info29 : (Try.prog.info? 29).map (fun i => (i.zero, i.size, i.bytes)) = some (some (.slice none 0 0), 1, 24) := by kernel_rfl

set_option maxRecDepth 100000 in
set_option maxHeartbeats 1000000 in
theorem refPaths_no (A : Option Addr) (n c : Nat) (T : Nat → Nd) (w : World) (hA : TreeAt w A n T) (hok : ¬ okTree T n) :
    Calls Try.prog 6 #[.slice A n c] w fun e w' => e = .returned (.slice none 0 0) ∧ Chg NoB w w' := by
  have hk : chk T n = 140 := if_neg hok
  have Hk := Lib.hid hk
  clear hk
  go_enter Try.func6, Try.ntmps6
  go_wp2_with fail
  refine (refCheck_any A n c T w hA).mono ?_
  rintro e w1 ⟨rfl, hch⟩
  rw [Hk.out]
  go_wp2
  go_ret
  exact ⟨rfl, hch⟩

set_option maxRecDepth 100000 in
set_option maxHeartbeats 2000000 in
theorem refPaths_yes (A : Option Addr) (n c : Nat) (T : Nat → Nd) (w : World) (hn : n * 24 ≤ 140737488351232) (hA : TreeAt w A n T) (hok : okTree T n) :
    Calls Try.prog 6 #[.slice A n c] w fun e w' => ∃ v vals, e = .returned v ∧ w'.ownsRow w.heap.size 29 1 v (paths T n).length vals ∧ Lists w' w.heap.size vals (paths T n) ∧ Chg NoB w w' := by
  have hk : chk T n = 0 := if_pos hok
  have hb := hok.2.1
  have hA' : ∀ w', Chg NoB w w' → TreeAt w' A n T := fun w' hc => hA.chg hc (fun _ _ _ h => h)
  have HA := Lib.hid hA'
  have Hk := Lib.hid hk
  clear hk hA'
  obtain ⟨i0, hi, hz0, hz1, hz2⟩ := info_parts info29
  go_enter Try.func6, Try.ntmps6
  go_wp2_with fail
  refine (refCheck_any A n c T w hA).mono ?_
  rintro e w1 ⟨rfl, hch⟩
  rw [Hk.out]
  go_wp2
  go_loopw [3, 4] (fun v s4 wr => ∃ (i : Nat) (vals : List Value), i ≤ n ∧ s4 = .int .i64 i ∧ wr.ownsRow w.heap.size 29 1 v (pathsUpTo T n i).length vals ∧ Lists wr w.heap.size vals (pathsUpTo T n i) ∧ Chg NoB w wr) (fun _ s4 _ => n - (intOf s4).toNat)
  case atStart => exact ⟨0, [], Nat.zero_le _, rfl, World.ownsRow_nil _ _ _ _, Lists.nil _ _, hch⟩
  case round =>
    obtain ⟨i, vals, hin, rfl, hown, hls, hch⟩ := hrel
    have Hls := Lib.hid hls
    clear hls
    by_cases hlt : i < n
    · go_wp2_with fail
      refine (leaf_any A n c i T wr hn (HA.out wr hch)).mono ?_
      rintro e w2 ⟨rfl, rfl⟩
      cases hleaf : leafAt T n i with
      | false =>
        have Hleaf := Lib.hid hleaf
        clear hleaf
        go_wp2
        go_roundw
        case rel =>
          refine ⟨i + 1, vals, by omega, by go_num, ?_, ?_, hch⟩
          · rw [pathsUpTo_no T n i Hleaf.out]; exact hown
          · rw [pathsUpTo_no T n i Hleaf.out]; exact Hls.out
        case measure => simp [intOf]; omega
      | true =>
        have Hleaf := Lib.hid hleaf
        clear hleaf
        go_wp2_with fail
        refine (way_any A n c T hn hok i wr hlt (HA.out wr hch)).mono ?_
        rintro e w2 ⟨g, cap, rfl, hg, hrow, hch2⟩
        have hle := pathsUpTo_le T n i
        have hown2 := owns_chg hown hch2 (fun _ _ h => h)
        have hls2 := Hls.out.chg hch2 (fun _ _ _ _ h => h)
        have hchA : Chg NoB w w2 := hch.step hch2
        have Hown2 := Lib.hid hown2
        have Hls2 := Lib.hid hls2
        have Hrow := Lib.hid hrow
        have hg' : w.heap.size ≤ g := Nat.le_trans hch.size hg
        clear hls2 hrow hown
        go_wp2_with (first
          | (at_builtin; refine wpList_append_own _ rfl _ _ 24 rfl w.heap.size 29 i0 _ 1 24 Try.underlying24 hi hz0 hz1 hz2 rfl (by decide) _ _ _ rfl (hown2.alloc _) ⟨w2.heap.size, 0, none⟩ 1 1 [.slice (some ⟨g, 0, none⟩) (way T i).length cap] rfl rfl ?c1 ?c2 ?c3 ?c4 ?c5 ?_)
          | go_in)
        case c1 => exact cell_one_new _ _ _
        case c2 => intro u hu; simp at hu; subst hu; rfl
        case c3 => unfold maxLen; omega
        case c4 => omega
        case c5 => have := hchA.size; simp; omega
        intro v' w3 hown' hgrow _
        have hc3 : Chg (fun k => Value.ownBlock _ = some k) w2 w3 := ((Chg.refl _ w2).alloc _).step (Chg.of_grown hgrow)
        have hls3 : Lists w3 w.heap.size (vals ++ [.slice (some ⟨g, 0, none⟩) (way T i).length cap]) (pathsUpTo T n i ++ [way T i]) :=
          ((Hls2.out.snoc hg' Hrow.out).chg hc3 (fun g' cur hh _ he => by
            obtain ⟨_, cur', hcur'⟩ := owns_heap Hown2.out he
            rw [hcur'] at hh; cases hh))
        have hchB : Chg NoB w w3 := hchA.trans hc3 (fun _ _ h => h) (fun k hk he => by
          have := (owns_heap Hown2.out he).1; omega)
        have hpu := pathsUpTo_yes T n i Hleaf.out
        rw [← hpu] at hls3
        have hlen : (pathsUpTo T n i).length + 1 = (pathsUpTo T n (i + 1)).length := by rw [hpu]; simp
        have Ho := Lib.hid hown'
        have Hl := Lib.hid hls3
        have HL := Lib.hid hlen
        clear hown' hgrow hown2 hls3 hpu hlen
        go_wp2
        go_roundw
        case rel => exact ⟨i + 1, _, by omega, by go_num, by rw [← HL.out]; exact Ho.out, Hl.out, hchB⟩
        case measure => simp [intOf]; omega
    · obtain rfl : i = n := by omega
      go_wp2
      go_ret
      exact ⟨_, vals, rfl, hown, Hls.out, hch⟩
end Go.Proofs.Ytokphbpgblhakaa
