/- Clean (function 20) at the document's third example; lives (function 10) answers true. -/
import Derived.Test.YtokphbpgblhakaaTp
import Derived.Test.YtokphbpgblhakaaTg
import Derived.Deep.RegionLaw
namespace Go.Proofs.Ytokphbpgblhakaa
open Go.RowKit

def rawP : Nat → Int
  | 0 => -1 | 1 => -1 | 2 => 0 | _ => 1
def rawT : Nat → Int
  | 0 => 3 | 1 => 3 | 2 => 4 | 3 => 4 | _ => 5
def mm : Nat → Nat
  | 0 => 1 | 1 => 2 | 2 => 2 | 3 => 3 | 4 => 3 | _ => 4
def ofs : Nat → Nat
  | 0 => 1 | 1 => 1 | 2 => 2 | 3 => 2 | _ => 3
def LT : Nat → Nd
  | 0 => ⟨-1, 7, 0⟩ | 1 => ⟨0, 3, 1⟩ | 2 => ⟨1, 4, 2⟩ | _ => ⟨1, 5, 2⟩

theorem live_par : ∀ i, i < 5 → (rawP i = -1 ∧ (LT (ofs i)).par = 0) ∨ ∃ j : Nat, rawP i = j ∧ j < i ∧ (LT (ofs i)).par = ofs j := fun i hi =>
  match i, hi with
  | 0, _ => .inl ⟨rfl, rfl⟩
  | 1, _ => .inl ⟨rfl, rfl⟩
  | 2, _ => .inr ⟨0, rfl, by decide, rfl⟩
  | 3, _ => .inr ⟨1, rfl, by decide, rfl⟩
  | 4, _ => .inr ⟨1, rfl, by decide, rfl⟩

theorem live_step : ∀ i, i < 5 → 1 ≤ rawT i ∧ rawT i < 10 ∧ -1 ≤ rawP i ∧ rawP i < i ∧ 1 ≤ mm i ∧ mm i ≤ 4 ∧ 0 ≤ (LT (ofs i)).par ∧ (LT (ofs i)).par < mm i ∧ (LT (ofs i)).tok = rawT i ∧ 1 ≤ ofs i ∧ ofs i ≤ 3 ∧
    ((ofs i < mm i ∧ mm (i + 1) = mm i) ∨ (ofs i = mm i ∧ mm (i + 1) = mm i + 1 ∧ (LT (mm i)).dep = (LT (LT (mm i)).par.toNat).dep + 1 ∧ ∀ j, j < mm i → 1 ≤ j → ¬ ((LT j).par = (LT (mm i)).par ∧ (LT j).tok = (LT (mm i)).tok))) := fun i hi =>
  match i, hi with
  | 0, _ => ⟨by decide, by decide, by decide, by decide, by decide, by decide, by decide, by decide, by decide, by decide, by decide, .inr ⟨by decide, by decide, by decide, by decide⟩⟩
  | 1, _ => ⟨by decide, by decide, by decide, by decide, by decide, by decide, by decide, by decide, by decide, by decide, by decide, .inl ⟨by decide, by decide⟩⟩
  | 2, _ => ⟨by decide, by decide, by decide, by decide, by decide, by decide, by decide, by decide, by decide, by decide, by decide, .inr ⟨by decide, by decide, by decide, by decide⟩⟩
  | 3, _ => ⟨by decide, by decide, by decide, by decide, by decide, by decide, by decide, by decide, by decide, by decide, by decide, .inl ⟨by decide, by decide⟩⟩
  | 4, _ => ⟨by decide, by decide, by decide, by decide, by decide, by decide, by decide, by decide, by decide, by decide, by decide, .inr ⟨by decide, by decide, by decide, by decide⟩⟩

def ofV (i : Nat) : List Value := (List.range 5).map fun j => .int .i64 (if j < i then (ofs j : Int) else 0)

theorem ofV_get {i j : Nat} (h : j < i) (hi : i ≤ 5) (v : Value) : ((ofV i).set i v)[j]? = some (.int .i64 (ofs j)) := by
  rw [List.getElem?_set_ne (by omega)]
  simp [ofV, show j < 5 from by omega, h]
theorem ofV_set {i : Nat} (hi : i < 5) : ((ofV i).set i (.int .i64 (-1))).set i (.int .i64 (ofs i)) = ofV (i + 1) := by
  apply List.ext_getElem?
  intro j
  rw [List.set_set]
  by_cases e : j = i
  · subst e
    rw [List.getElem?_set_self (by simp [ofV]; exact hi)]
    simp [ofV, hi]
  · rw [List.getElem?_set_ne (by omega)]
    by_cases h5 : j < 5
    · simp [ofV, h5]
      by_cases h : j < i
      · rw [if_pos h, if_pos (by omega)]
      · rw [if_neg h, if_neg (by omega)]
    · simp [ofV, h5]

def ordV (i : Nat) : List Value := (List.range 4).map fun j => .int .i64 (if j < i then (j : Int) else 0)
theorem ordV_get {i j : Nat} (h : j < i) (hi : i ≤ 4) : (ordV i)[j]? = some (.int .i64 (j : Int)) := by
  simp [ordV, show j < 4 from by omega, h]
theorem ordV_set {i : Nat} (hi : i < 4) : (ordV i).set i (.int .i64 (i : Int)) = ordV (i + 1) := by
  apply List.ext_getElem?
  intro j
  by_cases e : j = i
  · subst e
    rw [List.getElem?_set_self (by simp [ordV]; exact hi)]
    simp [ordV, hi]
  · rw [List.getElem?_set_ne (by omega)]
    by_cases h5 : j < 4
    · simp [ordV, h5]
      by_cases h : j < i
      · rw [if_pos h, if_pos (by omega)]
      · rw [if_neg h, if_neg (by omega)]
    · simp [ordV, h5]

theorem LT_dep (i : Nat) : 0 ≤ (LT i).dep ∧ (LT i).dep ≤ 2 :=
  match i with
  | 0 => by decide
  | 1 => by decide
  | 2 => by decide
  | _ + 3 => by show (0 : Int) ≤ 2 ∧ (2 : Int) ≤ 2; decide

theorem LT_mono : ∀ k, k + 1 < 4 → (LT k).dep ≤ (LT (k + 1)).dep := fun k hk =>
  match k, hk with
  | 0, _ => by decide
  | 1, _ => by decide
  | 2, _ => by decide

theorem LT_par : ∀ k, 0 < k → k < 4 → ∃ p : Nat, (LT k).par = p ∧ p < k := fun k hp hk =>
  match k, hp, hk with
  | 1, _, _ => ⟨0, rfl, by decide⟩
  | 2, _, _ => ⟨1, rfl, by decide⟩
  | 3, _, _ => ⟨1, rfl, by decide⟩

theorem LT_wf : NdWf LT 4 := fun i hi =>
  match i, hi with
  | 0, _ => by decide
  | 1, _ => by decide
  | 2, _ => by decide
  | 3, _ => by decide

def RawAt (w : World) (R : Nat) : Prop := ∀ i, i < 5 → w.cell? ⟨R, i * 2, none⟩ = some (.int .i64 (rawP i)) ∧ w.cell? ⟨R, i * 2 + 1, none⟩ = some (.int .i64 (rawT i))

set_option maxRecDepth 100000 in
set_option maxHeartbeats 4000000 in
theorem clean_live (R : Nat) (W : World) (hR : RawAt W R) :
    Calls Try.prog 20 #[.int .i64 7, .slice (some ⟨R, 0, none⟩) 5 5, .int .i64 10] W fun e w' => ∃ g cap, e = .returned (.tuple #[.slice (some ⟨g, 0, none⟩) 4 cap, .int .i64 0]) ∧ Row w' g 43 3 4 cap (cellsOfT LT 4) ∧ Chg NoB W w' := by
  obtain ⟨i0, hi, hz0, hz1, hz2⟩ := info_parts info43
  obtain ⟨j0, hj, hj0, hj1, hj2⟩ := info_parts info3
  have hmk : ∀ (n : Nat) (w : World), n ≤ 5 → (Instr.makeSlice 29 (.int .i64 (n : Int)) (.int .i64 (n : Int))).run Try.prog w = .ok (.slice (some ⟨w.heap.size, 0, none⟩) n n) (w.alloc (.cells (madeCells (Value.int .i64 0).cells (n * 1)) 3)) := fun n w hn => by
    have := run_make (P := Try.prog) w 29 3 j0 _ Try.underlying29 hj hj0 .i64 .i64 n n (by omega) (by omega) (by rw [hj2]; omega) (by omega)
    rw [hj1] at this
    simpa using this
  have hmk5 : ∀ (w : World), (Instr.makeSlice 29 (.int .i64 5) (.int .i64 5)).run Try.prog w = .ok (.slice (some ⟨w.heap.size, 0, none⟩) 5 5) (w.alloc (.cells (madeCells #[Value.int .i64 0] 5) 3)) := fun w => hmk 5 w (by omega)
  have hmm := @run_makeMap Try.prog
  have HR := Lib.hid hR
  have Hmk := Lib.hid hmk
  clear hR hmk
  go_enter Try.func20, Try.ntmps20
  go_wp2
  have hrow0 : Row ((((W.alloc (.cells #[.int .i64 (-1), .int .i64 7, .int .i64 0] 43)).alloc (.cells #[.slice (some ⟨W.heap.size, 0, none⟩) 1 1] 22)).alloc (.cells (madeCells #[Value.int .i64 0] 5) 3)).alloc (.map #[] 0)) W.heap.size 43 3 1 1 (cellsOfT LT 1) := by
    refine Row.alloc (Row.alloc (Row.alloc ⟨cellsOfT_length _ _, #[.int .i64 (-1), .int .i64 7, .int .i64 0], World.alloc_heap_new _ _, by omega, by unfold maxLen; omega, rfl, rfl⟩ _) _) _
  have hbox0 : Boxed ((((W.alloc (.cells #[.int .i64 (-1), .int .i64 7, .int .i64 0] 43)).alloc (.cells #[.slice (some ⟨W.heap.size, 0, none⟩) 1 1] 22)).alloc (.cells (madeCells #[Value.int .i64 0] 5) 3)).alloc (.map #[] 0)) (W.heap.size + 1) 22 (.slice (some ⟨W.heap.size, 0, none⟩) 1 1) := by
    have := ((Boxed.new (W.alloc (.cells #[.int .i64 (-1), .int .i64 7, .int .i64 0] 43)) 22 (.slice (some ⟨W.heap.size, 0, none⟩) 1 1)).alloc (.cells (madeCells #[Value.int .i64 0] 5) 3)).alloc (.map #[] 0)
    rw [World.size_alloc] at this
    exact this
  have hof0 : Row ((((W.alloc (.cells #[.int .i64 (-1), .int .i64 7, .int .i64 0] 43)).alloc (.cells #[.slice (some ⟨W.heap.size, 0, none⟩) 1 1] 22)).alloc (.cells (madeCells #[Value.int .i64 0] 5) 3)).alloc (.map #[] 0)) (W.heap.size + 1 + 1) 3 1 5 5 (ofV 0) := by
    have := (Row.made (w := ((W.alloc (.cells #[.int .i64 (-1), .int .i64 7, .int .i64 0] 43)).alloc (.cells #[.slice (some ⟨W.heap.size, 0, none⟩) 1 1] 22))) (e := 3) (z := .int .i64 0) (n := 5) rfl (by unfold maxLen; omega)).alloc (.map #[] 0)
    rw [World.size_alloc, World.size_alloc] at this
    exact this
  have hmap0 : MapIs Try.prog 59 ((((W.alloc (.cells #[.int .i64 (-1), .int .i64 7, .int .i64 0] 43)).alloc (.cells #[.slice (some ⟨W.heap.size, 0, none⟩) 1 1] 22)).alloc (.cells (madeCells #[Value.int .i64 0] 5) 3)).alloc (.map #[] 0)) (W.heap.size + 1 + 1 + 1) (ents LT 1) := by
    have := MapIs.made Try.prog 59 (((W.alloc (.cells #[.int .i64 (-1), .int .i64 7, .int .i64 0] 43)).alloc (.cells #[.slice (some ⟨W.heap.size, 0, none⟩) 1 1] 22)).alloc (.cells (madeCells #[Value.int .i64 0] 5) 3))
    rw [World.size_alloc, World.size_alloc, World.size_alloc] at this
    exact this
  have hch0 : Chg NoB W ((((W.alloc (.cells #[.int .i64 (-1), .int .i64 7, .int .i64 0] 43)).alloc (.cells #[.slice (some ⟨W.heap.size, 0, none⟩) 1 1] 22)).alloc (.cells (madeCells #[Value.int .i64 0] 5) 3)).alloc (.map #[] 0)) := ((((Chg.refl _ _).alloc _).alloc _).alloc _).alloc _
  have hsz0 : ((((W.alloc (.cells #[.int .i64 (-1), .int .i64 7, .int .i64 0] 43)).alloc (.cells #[.slice (some ⟨W.heap.size, 0, none⟩) 1 1] 22)).alloc (.cells (madeCells #[Value.int .i64 0] 5) 3)).alloc (.map #[] 0)).heap.size = W.heap.size + 4 := by simp
  generalize (((W.alloc (.cells #[.int .i64 (-1), .int .i64 7, .int .i64 0] 43)).alloc (.cells #[.slice (some ⟨W.heap.size, 0, none⟩) 1 1] 22)).alloc (.cells (madeCells #[Value.int .i64 0] 5) 3)).alloc (.map #[] 0) = W4 at *
  have hRl : R < W.heap.size := blk_lt (HR.out 0 (by omega)).1
  have HR4 : Hid (RawAt W4 R) := fun i hi => ⟨hch0.cell (HR.out i hi).1 (fun h => h), hch0.cell (HR.out i hi).2 (fun h => h)⟩
  generalize hB : W.heap.size + 1 = B at *
  generalize hO : B + 1 = O at *
  generalize hM : O + 1 = M at *
  have Hsz0 := Lib.hid hsz0
  have Hch0 := Lib.hid hch0
  have HB := Lib.hid hB
  have HO := Lib.hid hO
  have HM := Lib.hid hM
  clear hsz0 hch0 hB hO hM
  have Hst := Lib.hid (And.intro hrow0 (And.intro hbox0 (And.intro hof0 hmap0)))
  clear hrow0 hbox0 hof0 hmap0
  generalize hWs : W.heap.size = a0 at *
  have HWs := Lib.hid hWs
  clear hWs
  go_loopw [36] (fun s36 wr => ∃ (i G cap : Nat), i ≤ 5 ∧ s36 = .int .i64 i ∧ (G = a0 ∨ a0 + 4 ≤ G) ∧ Row wr G 43 3 (mm i) cap (cellsOfT LT (mm i)) ∧ Boxed wr B 22 (.slice (some ⟨G, 0, none⟩) (mm i) cap) ∧ Row wr O 3 1 5 5 (ofV i) ∧ MapIs Try.prog 59 wr M (ents LT (mm i)) ∧ Chg (fun k => a0 ≤ k) W4 wr) (fun s36 _ => 5 - (intOf s36).toNat)
  case atStart => exact ⟨0, a0, 1, by omega, rfl, .inl rfl, Hst.out.1, Hst.out.2.1, Hst.out.2.2.1, Hst.out.2.2.2, Chg.refl _ _⟩
  case round =>
    obtain ⟨i, G, cap, hi5, rfl, hG, hrow, hbox, hof, hmap, hch⟩ := hrel
    clear Hst
    have Hrow := Lib.hid hrow
    have Hbox := Lib.hid hbox
    have Hof := Lib.hid hof
    have Hmap := Lib.hid hmap
    have HG := Lib.hid hG
    have Hch := Lib.hid hch
    clear hrow hbox hof hmap hG
    by_cases hlt : i < 5
    · obtain ⟨s1, s2, s3, s4, s5, s6, s7, s8, s9, s10, s11, s12⟩ := live_step i hlt
      have ci0 := hch.cell (HR4.out i hlt).1 (fun h => by simp only at h; have := HWs.out; omega)
      have ci1 := hch.cell (HR4.out i hlt).2 (fun h => by simp only at h; have := HWs.out; omega)
      have hofr := Hof.out.free i
      have hOl : O < wr.heap.size := Hof.out.lt
      have hRl2 : R < wr.heap.size := blk_lt ci0
      have hOR : ¬ (O = R) := by have := HO.out; have := HB.out; have := HWs.out; omega
      have d1 : decide (rawT i < 1) = false := by simp; omega
      have d2 : decide (10 ≤ rawT i) = false := by simp; omega
      have d3 : decide (rawP i < -1) = false := by simp; omega
      have d4 : decide ((i : Int) ≤ rawP i) = false := by simp; omega
      have hil : (i : Int) < 5 := by omega
      obtain ⟨q, hq⟩ : ∃ q : Nat, (LT (ofs i)).par = q := ⟨_, (Int.toNat_of_nonneg s7).symm⟩
      have hpar := live_par i hlt
      rw [hq] at hpar s8 s7
      have hqm : q < mm i := by omega
      have Hq := Lib.hid hq
      have S9 := Lib.hid s9
      have S12 := Lib.hid s12
      have Hpar := Lib.hid hpar
      clear hq s9 s12 hpar s1 s2 s3 s4 s7 s8
      generalize hpi : rawP i = pi at *
      generalize hti : rawT i = ti at *
      have Hpi := Lib.hid hpi
      have Hti := Lib.hid hti
      clear hpi hti
      -- the look-up
      have hcO : wr.cell? ⟨O, i, none⟩ = some (.int .i64 0) := Hof.out.cell (by simp [ofV, hlt])
      have hW1 : Row (wr.setCell ⟨O, i, none⟩ (.int .i64 (-1))) O 3 1 5 5 ((ofV i).set i (.int .i64 (-1))) := Hof.out.set_ i _
      have HW1 := Lib.hid hW1
      clear hW1
      have hkq : br LT (ofs i) = .agg #[.int .i64 q, .int .i64 ti] := by rw [br, Hq.out, S9.out]
      have Hkq := Lib.hid hkq
      clear hkq
      have hkey : KeyOk Try.prog 59 (.agg #[.int .i64 q, .int .i64 ti]) := by rw [← Hkq.out]; exact br_ok LT_wf (by omega)
      have hMO : M ≠ O := by have := HM.out; omega
      have hmK : MapIs Try.prog 59 (((wr.setCell ⟨O, i, none⟩ (.int .i64 (-1))).alloc (.cells #[.int .i64 pi, .int .i64 ti] 54)).alloc (.cells #[.int .i64 q, .int .i64 ti] 59)) M (ents LT (mm i)) := ((Hmap.out.setCell (p := ⟨O, i, none⟩) hMO _).alloc _).alloc _
      have HmK := Lib.hid hmK
      have Hkey := Lib.hid hkey
      clear hmK hkey
      have hGO : G ≠ O := by have := HG.out; have := HO.out; have := HB.out; omega
      have hfO : ∀ o1 o2, Row ((((wr.setCell ⟨O, i, none⟩ (.int .i64 (-1))).setCell ⟨O, i, none⟩ (.int .i64 (ofs i))).alloc o1).alloc o2) G 43 3 (mm i) cap (cellsOfT LT (mm i)) ∧
          Boxed ((((wr.setCell ⟨O, i, none⟩ (.int .i64 (-1))).setCell ⟨O, i, none⟩ (.int .i64 (ofs i))).alloc o1).alloc o2) B 22 (.slice (some ⟨G, 0, none⟩) (mm i) cap) ∧
          Row ((((wr.setCell ⟨O, i, none⟩ (.int .i64 (-1))).setCell ⟨O, i, none⟩ (.int .i64 (ofs i))).alloc o1).alloc o2) O 3 1 5 5 (ofV (i + 1)) ∧
          MapIs Try.prog 59 ((((wr.setCell ⟨O, i, none⟩ (.int .i64 (-1))).setCell ⟨O, i, none⟩ (.int .i64 (ofs i))).alloc o1).alloc o2) M (ents LT (mm i)) ∧
          Chg (fun k => a0 ≤ k) W4 ((((wr.setCell ⟨O, i, none⟩ (.int .i64 (-1))).setCell ⟨O, i, none⟩ (.int .i64 (ofs i))).alloc o1).alloc o2) := fun o1 o2 => by
        have hc : Chg (fun k => k = O) wr ((((wr.setCell ⟨O, i, none⟩ (.int .i64 (-1))).setCell ⟨O, i, none⟩ (.int .i64 (ofs i))).alloc o1).alloc o2) := ((((Chg.refl (fun k => k = O) wr).setCell (p := ⟨O, i, none⟩) (fun _ => rfl) _).setCell (p := ⟨O, i, none⟩) (fun _ => rfl) _).alloc _).alloc _
        refine ⟨Hrow.out.chg hc hGO, boxed_chg Hbox.out hc (by have := HO.out; omega), ?_, Hmap.out.chg hc hMO, Hch.out.trans hc (fun _ _ h => h) (fun k _ h => by have := HO.out; have := HB.out; omega)⟩
        have := ((HW1.out.set_ i (.int .i64 (ofs i))).alloc o1).alloc o2
        rw [ofV_set hlt] at this
        exact this
      have HfO := Lib.hid hfO
      clear hfO
      rcases S12.out with ⟨hold, hmn⟩ | ⟨hnew, hmn, hdn, hno⟩
      · have hl := HmK.out.lookup_hit law59 Try.underlying57 Hkey.out (mem_ents.2 ⟨ofs i, s10, hold, by rw [Hkq.out]⟩) true
        simp only [if_true] at hl
        have Hold := Lib.hid hold
        have Hmn := Lib.hid hmn
        clear hold hmn
        rcases Hpar.out with ⟨rfl, hq0⟩ | ⟨j, rfl, hji, hqj⟩
        · obtain rfl : q = 0 := by omega
          simp only [Int.natCast_zero] at hl
          go_wp2
          exact ⟨⟨i + 1, G, cap, by omega, rfl, HG.out, by rw [Hmn.out]; exact (HfO.out _ _).1, by rw [Hmn.out]; exact (HfO.out _ _).2.1, (HfO.out _ _).2.2.1, by rw [Hmn.out]; exact (HfO.out _ _).2.2.2.1, (HfO.out _ _).2.2.2.2⟩, by simp [intOf]; omega⟩
        · have cj := HW1.out.cell (ofV_get hji (by omega) _)
          have hj5 : (j : Int) < 5 := by omega
          have hqj' : ofs j = q := by omega
          rw [hqj'] at cj
          clear hqj hqj'
          go_wp2
          exact ⟨⟨i + 1, G, cap, by omega, rfl, HG.out, by rw [Hmn.out]; exact (HfO.out _ _).1, by rw [Hmn.out]; exact (HfO.out _ _).2.1, (HfO.out _ _).2.2.1, by rw [Hmn.out]; exact (HfO.out _ _).2.2.2.1, (HfO.out _ _).2.2.2.2⟩, by simp [intOf]; omega⟩
      · have hl := HmK.out.lookup_miss law59 Try.underlying57 (zero3 _) Hkey.out (fun x hx e => by
          obtain ⟨j, hj1, hj2, rfl⟩ := mem_ents.1 hx
          refine hno j hj2 hj1 (br_eq.1 ?_)
          rw [← hnew, Hkq.out]
          exact e) true
        simp only [if_true] at hl
        obtain ⟨w2, hst, hm2, hc2⟩ := HmK.out.store_new law59 Try.underlying57 (v := .int .i64 (mm i)) Hkey.out (fun x hx e => by
          obtain ⟨j, hj1, hj2, rfl⟩ := mem_ents.1 hx
          refine hno j hj2 hj1 (br_eq.1 ?_)
          rw [← hnew, Hkq.out]
          exact e)
        have Hmn := Lib.hid hmn
        have Hnew := Lib.hid hnew
        have Hdn := Lib.hid hdn
        have Hm2 := Lib.hid hm2
        have Hc2 := Lib.hid hc2
        have hsw2 : wr.heap.size + 2 ≤ w2.heap.size := by have := hc2.size; simp at this; omega
        have hrow2 : Row w2 G 43 3 (mm i) cap (cellsOfT LT (mm i)) := (((Hrow.out.chg ((Chg.refl (fun k => k = O) wr).setCell (p := ⟨O, i, none⟩) (fun _ => rfl) _) hGO).alloc _).alloc _).chg hc2 (by have := HG.out; have := HM.out; have := HO.out; have := HB.out; omega)
        have hown : w2.ownsRow a0 43 3 (.slice (some ⟨G, 0, none⟩) (mm i) cap) (mm i) (cellsOfT LT (mm i)) := hrow2.owns (by have := HG.out; omega)
        have cGq : w2.cell? ⟨G, q * 3 + 2, none⟩ = some (.int .i64 (LT q).dep) := hrow2.cell (cellsOfT_get LT (mm i) q hqm).2.2
        have hdq := LT_dep q
        obtain ⟨dq, hdqe⟩ : ∃ d, d = (LT q).dep := ⟨_, rfl⟩
        rw [← hdqe] at cGq hdq
        obtain ⟨hdq1, hdq2⟩ := hdq
        have Hdqe := Lib.hid hdqe
        clear hdqe
        have hGl : G < w2.heap.size := hrow2.lt
        have hm63 : mm i + 1 ≤ maxLen := by unfold maxLen; omega
        have hm24 : (mm i + 1) * 24 ≤ 140737488355328 := by omega
        have hGB : ¬ (G = B) := by have := HG.out; have := HB.out; omega
        have hsa0 : a0 ≤ w2.heap.size := by have := HG.out; omega
        have hGc : G < wr.heap.size := Hrow.out.lt
        have h54 : ((wr.setCell ⟨O, i, none⟩ (.int .i64 (-1))).alloc (.cells #[.int .i64 pi, .int .i64 ti] 54)).heap[wr.heap.size]? = some (.cells #[.int .i64 pi, .int .i64 ti] 54) := by
          have := World.alloc_heap_new (wr.setCell ⟨O, i, none⟩ (.int .i64 (-1))) (.cells #[.int .i64 pi, .int .i64 ti] 54)
          rw [show (wr.setCell ⟨O, i, none⟩ (.int .i64 (-1))).heap.size = wr.heap.size from by simp [World.setCell]] at this
          exact this
        have c2t : w2.cell? ⟨wr.heap.size, 1, none⟩ = some (.int .i64 ti) := hc2.cell (p := ⟨wr.heap.size, 1, none⟩) (v := .int .i64 ti) ((World.cell?_alloc_lt _ _ _ (Array.getElem?_eq_some_iff.1 h54).1).trans (cell_of_row _ _ 1 _ _ _ h54)) (by have := Hmap.out.lt; simp only; omega)
        have b2 : Boxed w2 B 22 (.slice (some ⟨G, 0, none⟩) (mm i) cap) := boxed_chg (((boxed_chg Hbox.out ((Chg.refl (fun k => k = O) wr).setCell (p := ⟨O, i, none⟩) (fun _ => rfl) _) (by have := HO.out; omega)).alloc _).alloc _) hc2 (by have := HM.out; have := HO.out; omega)
        have b2c := b2.cell
        have b2f := b2.frozen
        have b2l := b2.lt
        have HB2 := Lib.hid b2
        have hO2 : Row w2 O 3 1 5 5 ((ofV i).set i (.int .i64 (-1))) := (((HW1.out.alloc _).alloc _).chg hc2 (by have := HM.out; omega))
        have hch2 : Chg (fun k => a0 ≤ k) W4 w2 := ((((Hch.out.setCell (p := ⟨O, i, none⟩) (fun h => by have := HO.out; have := HB.out; simp only; omega) _).alloc _).alloc _)).trans hc2 (fun _ _ h => h) (fun k _ h => by have := HM.out; have := HO.out; have := HB.out; omega)
        have hF : ∀ (gg cap2 : Nat) (wa w3 : World), Chg NoB w2 wa → wa.heap.size = w2.heap.size + 1 → w3.ownsRow a0 43 3 (.slice (some ⟨gg, 0, none⟩) (mm i + 1) cap2) (mm i + 1) (cellsOfT LT (mm i) ++ [.int .i64 q, .int .i64 ti, .int .i64 (IntKind.i64.wrap (dq + 1))]) → wa.grownBy w3 (Value.slice (some ⟨G, 0, none⟩) (mm i) cap).ownBlock → ((Value.slice (some ⟨G, 0, none⟩) (mm i) cap).ownBlock = some gg ∨ gg = w2.heap.size + 1) →
            (gg = a0 ∨ a0 + 4 ≤ gg) ∧ Row (w3.setCell ⟨B, 0, none⟩ (.slice (some ⟨gg, 0, none⟩) (mm i + 1) cap2)) gg 43 3 (mm i + 1) cap2 (cellsOfT LT (mm i + 1)) ∧ Boxed (w3.setCell ⟨B, 0, none⟩ (.slice (some ⟨gg, 0, none⟩) (mm i + 1) cap2)) B 22 (.slice (some ⟨gg, 0, none⟩) (mm i + 1) cap2) ∧ Row (w3.setCell ⟨B, 0, none⟩ (.slice (some ⟨gg, 0, none⟩) (mm i + 1) cap2)) O 3 1 5 5 ((ofV i).set i (.int .i64 (-1))) ∧ MapIs Try.prog 59 (w3.setCell ⟨B, 0, none⟩ (.slice (some ⟨gg, 0, none⟩) (mm i + 1) cap2)) M (ents LT (mm i + 1)) ∧ Chg (fun k => a0 ≤ k) W4 (w3.setCell ⟨B, 0, none⟩ (.slice (some ⟨gg, 0, none⟩) (mm i + 1) cap2)) := by
          intro gg cap2 wa w3 hwa hsz hown3 hgrow hat
          have hBe := HB.out
          have hOe := HO.out
          have hMe := HM.out
          have hGe := HG.out
          have hgge : gg = G ∨ gg = w2.heap.size + 1 := hat.imp (fun h => by simp [Value.ownBlock] at h; exact h.symm) id
          have hc3 : Chg (fun k => k = G) w2 w3 := hwa.trans (Chg.of_grown hgrow) (fun _ _ h => h.elim) (fun k _ h => by simp [Value.ownBlock] at h; exact h.symm)
          have hc4 : Chg (fun k => k = B) w3 (w3.setCell ⟨B, 0, none⟩ (.slice (some ⟨gg, 0, none⟩) (mm i + 1) cap2)) := (Chg.refl (fun k => k = B) w3).setCell (p := ⟨B, 0, none⟩) (fun _ => rfl) _
          have hsa : a0 + 4 ≤ w2.heap.size := by have := hch2.size; have := Hsz0.out; have := HWs.out; omega
          have hnd : LT (mm i) = ⟨q, ti, IntKind.i64.wrap (dq + 1)⟩ := by
            have e1 := Hq.out
            have e2 := S9.out
            have e3 := Hdn.out
            rw [Hnew.out] at e1 e2
            rw [e1] at e3
            simp only [Int.toNat_natCast] at e3
            rw [← Hdqe.out] at e3
            have e4 : IntKind.i64.wrap (dq + 1) = dq + 1 := by rw [IntKind.wrap_i64]; omega
            rw [e4, ← e3, ← e1, ← e2]
          refine ⟨by omega, ?_, (boxed_chg HB2.out hc3 (by omega)).set _, (hO2.chg hc3 (by omega)).chg hc4 (by omega), ?_, (hch2.trans hc3 (fun _ _ h => h) (fun k _ h => by omega)).trans hc4 (fun _ _ h => h) (fun k _ h => by omega)⟩
          · refine Row.chg ?_ hc4 (by omega)
            rw [cellsOfT_succ, hnd]
            exact (Row.of_owns hown3).2
          · rw [ents_succ LT s5, show br LT (mm i) = .agg #[.int .i64 q, .int .i64 ti] from by rw [← Hnew.out]; exact Hkq.out]
            exact (Hm2.out.chg hc3 (by omega)).chg hc4 (by omega)
        have HF := Lib.hid hF
        clear hF hO2 hch2
        clear b2
        have cB := Hbox.out.cell
        have hBO : ¬ (B = O) := by have := HO.out; omega
        have hBl : B < wr.heap.size := Hbox.out.lt
        clear hmn hnew hdn hno hm2 hc2
        rcases Hpar.out with ⟨rfl, hq0⟩ | ⟨j, rfl, hji, hqj⟩
        · obtain rfl : q = 0 := by omega
          simp only [Int.natCast_zero] at hl hst
          go_wp2_with fail
          clear hl hst ci0 ci1 hcO cB
          go_cut [] (fun wx => ∃ gg cap2, (gg = a0 ∨ a0 + 4 ≤ gg) ∧ Row wx gg 43 3 (mm i + 1) cap2 (cellsOfT LT (mm i + 1)) ∧ Boxed wx B 22 (.slice (some ⟨gg, 0, none⟩) (mm i + 1) cap2) ∧ Row wx O 3 1 5 5 ((ofV i).set i (.int .i64 (-1))) ∧ MapIs Try.prog 59 wx M (ents LT (mm i + 1)) ∧ Chg (fun k => a0 ≤ k) W4 wx)
          case first =>
            go_region_law
              ((refine step_append_lies _ (by rfl) (.tmp 91) (.tmp 102) 22 (by rfl) a0 43 i0 _ 3 24 Try.underlying22 hi hz0 hz1 hz2 rfl (by omega) (.slice (some ⟨G, 0, none⟩) (mm i) cap) (mm i) (cellsOfT LT (mm i)) (by rfl) ((hown.alloc _).drew)
                    ⟨w2.heap.size, 0, none⟩ 1 1 [.int .i64 0, .int .i64 ti, .int .i64 (IntKind.i64.wrap (dq + 1))] (by rfl) (by rfl) (World.news_of_block (cs := #[.int .i64 0, .int .i64 ti, .int .i64 (IntKind.i64.wrap (dq + 1))]) (t := 43) (fr := (0, 0)) (heap_alloc_new w2 _)) (nd_oneCell ⟨0, ti, IntKind.i64.wrap (dq + 1)⟩)
                    (by omega) hm63 hm24 (by simp; omega) (w2.heap.size + 1) (by simp) ?_; intro gg cap2 w3 hown3 hgrow hat hlt3; have b3f : w3.frozen? ⟨B, 0, none⟩ = false := (hgrow.frozen_far ⟨B, 0, none⟩ (by simp; omega) (by simp [Value.ownBlock]; omega)).trans (HB2.out.alloc _).frozen; have b3c : w3.cell? ⟨B, 0, none⟩ = some (.slice (some ⟨G, 0, none⟩) (mm i) cap) := (hgrow.cell_far ⟨B, 0, none⟩ (by simp; omega) (by simp [Value.ownBlock]; omega)).trans (HB2.out.alloc _).cell))
            all_goals
              go_wp2_with fail
              go_meet
              case rel => exact ⟨gg, cap2, HF.out gg cap2 _ w3 (by first | exact (Chg.refl _ _).alloc _ | exact ((Chg.refl _ _).alloc _).drew) (by simp) hown3 hgrow hat⟩
          case rest =>
            obtain ⟨gg, cap2, f1, f2, f3, f4, f5, f6⟩ := hcut
            have k1 := f4.cell (j := i) (v := .int .i64 (-1)) (by simp [ofV, hlt])
            have k2 := f4.free i
            have F4 := Lib.hid (f4.set_ i (.int .i64 (mm i)))
            have F2 := Lib.hid f2
            have F3 := Lib.hid f3
            have F5 := Lib.hid f5
            have F6 := Lib.hid f6
            have F1 := Lib.hid f1
            clear f1 f2 f3 f4 f5 f6
            go_wp2
            have hcE : Chg (fun k => k = O) wc (wc.setCell ⟨O, i, none⟩ (.int .i64 (mm i))) := (Chg.refl (fun k => k = O) wc).setCell (p := ⟨O, i, none⟩) (fun _ => rfl) _
            have hF4 := F4.out
            rw [← Hnew.out, ofV_set hlt, Hnew.out] at hF4
            exact ⟨⟨i + 1, gg, cap2, by omega, rfl, F1.out, by rw [Hmn.out]; exact F2.out.chg hcE (by have := F1.out; have := HO.out; have := HB.out; omega), by rw [Hmn.out]; exact boxed_chg F3.out hcE (by have := HO.out; omega), hF4, by rw [Hmn.out]; exact F5.out.chg hcE hMO, F6.out.trans hcE (fun _ _ h => h) (fun k _ h => by have := HO.out; have := HB.out; omega)⟩, by simp [intOf]; omega⟩
        · have cj := HW1.out.cell (ofV_get hji (by omega) _)
          have hj5 : (j : Int) < 5 := by omega
          have hqj' : ofs j = q := by omega
          rw [hqj'] at cj
          clear hqj hqj'
          have hqm' : (q : Int) < (mm i : Int) := by omega
          go_wp2_with fail
          clear cj
          clear hl hst ci0 ci1 hcO cB
          go_cut [] (fun wx => ∃ gg cap2, (gg = a0 ∨ a0 + 4 ≤ gg) ∧ Row wx gg 43 3 (mm i + 1) cap2 (cellsOfT LT (mm i + 1)) ∧ Boxed wx B 22 (.slice (some ⟨gg, 0, none⟩) (mm i + 1) cap2) ∧ Row wx O 3 1 5 5 ((ofV i).set i (.int .i64 (-1))) ∧ MapIs Try.prog 59 wx M (ents LT (mm i + 1)) ∧ Chg (fun k => a0 ≤ k) W4 wx)
          case first =>
            go_region_law
              ((refine step_append_lies _ (by rfl) (.tmp 91) (.tmp 102) 22 (by rfl) a0 43 i0 _ 3 24 Try.underlying22 hi hz0 hz1 hz2 rfl (by omega) (.slice (some ⟨G, 0, none⟩) (mm i) cap) (mm i) (cellsOfT LT (mm i)) (by rfl) ((hown.alloc _).drew)
                    ⟨w2.heap.size, 0, none⟩ 1 1 [.int .i64 q, .int .i64 ti, .int .i64 (IntKind.i64.wrap (dq + 1))] (by rfl) (by rfl) (World.news_of_block (cs := #[.int .i64 q, .int .i64 ti, .int .i64 (IntKind.i64.wrap (dq + 1))]) (t := 43) (fr := (0, 0)) (heap_alloc_new w2 _)) (nd_oneCell ⟨q, ti, IntKind.i64.wrap (dq + 1)⟩)
                    (by omega) hm63 hm24 (by simp; omega) (w2.heap.size + 1) (by simp) ?_; intro gg cap2 w3 hown3 hgrow hat hlt3; have b3f : w3.frozen? ⟨B, 0, none⟩ = false := (hgrow.frozen_far ⟨B, 0, none⟩ (by simp; omega) (by simp [Value.ownBlock]; omega)).trans (HB2.out.alloc _).frozen; have b3c : w3.cell? ⟨B, 0, none⟩ = some (.slice (some ⟨G, 0, none⟩) (mm i) cap) := (hgrow.cell_far ⟨B, 0, none⟩ (by simp; omega) (by simp [Value.ownBlock]; omega)).trans (HB2.out.alloc _).cell))
            all_goals
              go_wp2_with fail
              go_meet
              case rel => exact ⟨gg, cap2, HF.out gg cap2 _ w3 (by first | exact (Chg.refl _ _).alloc _ | exact ((Chg.refl _ _).alloc _).drew) (by simp) hown3 hgrow hat⟩
          case rest =>
            obtain ⟨gg, cap2, f1, f2, f3, f4, f5, f6⟩ := hcut
            have k1 := f4.cell (j := i) (v := .int .i64 (-1)) (by simp [ofV, hlt])
            have k2 := f4.free i
            have F4 := Lib.hid (f4.set_ i (.int .i64 (mm i)))
            have F2 := Lib.hid f2
            have F3 := Lib.hid f3
            have F5 := Lib.hid f5
            have F6 := Lib.hid f6
            have F1 := Lib.hid f1
            clear f1 f2 f3 f4 f5 f6
            go_wp2
            have hcE : Chg (fun k => k = O) wc (wc.setCell ⟨O, i, none⟩ (.int .i64 (mm i))) := (Chg.refl (fun k => k = O) wc).setCell (p := ⟨O, i, none⟩) (fun _ => rfl) _
            have hF4 := F4.out
            rw [← Hnew.out, ofV_set hlt, Hnew.out] at hF4
            exact ⟨⟨i + 1, gg, cap2, by omega, rfl, F1.out, by rw [Hmn.out]; exact F2.out.chg hcE (by have := F1.out; have := HO.out; have := HB.out; omega), by rw [Hmn.out]; exact boxed_chg F3.out hcE (by have := HO.out; omega), hF4, by rw [Hmn.out]; exact F5.out.chg hcE hMO, F6.out.trans hcE (fun _ _ h => h) (fun k _ h => by have := HO.out; have := HB.out; omega)⟩, by simp [intOf]; omega⟩
    · obtain rfl : i = 5 := by omega
      have cB := Hbox.out.cell
      have hrowG : Row wr G 43 3 4 cap (cellsOfT LT 4) := Hrow.out
      have hBl : B < wr.heap.size := Hbox.out.lt
      have hGl : G < wr.heap.size := hrowG.lt
      have hmk4 : ∀ (w : World), (Instr.makeSlice 29 (.int .i64 4) (.int .i64 4)).run Try.prog w = .ok (.slice (some ⟨w.heap.size, 0, none⟩) 4 4) (w.alloc (.cells (madeCells #[Value.int .i64 0] 4) 3)) := fun w => Hmk.out 4 w (by omega)
      have hchW : Chg NoB W wr := Hch0.out.trans Hch.out (fun _ _ h => h) (fun k hk h => by have := HWs.out; omega)
      have HchW := Lib.hid hchW
      have HrowG := Lib.hid hrowG
      have e5 : mm 5 = 4 := rfl
      rw [e5] at cB
      clear hch hchW hrowG hmk5
      go_wp2
      have hr0 : Row (wr.alloc (.cells (madeCells #[Value.int .i64 0] 4) 3)) wr.heap.size 3 1 4 4 (ordV 0) := Row.made (w := wr) (e := 3) (z := .int .i64 0) (n := 4) rfl (by unfold maxLen; omega)
      have Hr0 := Lib.hid hr0
      clear hr0
      generalize hO2 : wr.heap.size = O2 at *
      have HO2 := Lib.hid hO2
      clear hO2
      go_loopw [114] (fun s114 wz => ∃ k : Nat, k ≤ 4 ∧ s114 = .int .i64 k ∧ Row wz O2 3 1 4 4 (ordV k) ∧ Chg NoB wr wz) (fun s114 _ => 4 - (intOf s114).toNat)
      case atStart => exact ⟨0, by omega, rfl, Hr0.out, (Chg.refl _ _).alloc _⟩
      case round =>
        obtain ⟨k, hk4, rfl, hrk, hck⟩ := hrel
        have Hrk := Lib.hid hrk
        clear hrk
        by_cases hlk : k < 4
        · have ck := Hrk.out.cell (j := k) (v := .int .i64 0) (by simp [ordV, hlk])
          have fk := Hrk.out.free k
          have hlk' : (k : Int) < 4 := by omega
          go_wp2
          have hset := Hrk.out.set_ k (.int .i64 (k : Int))
          rw [ordV_set hlk] at hset
          exact ⟨⟨k + 1, by omega, rfl, hset, hck.setCell (p := ⟨O2, k, none⟩) (fun h => by simp only at h; have := HO2.out; omega) _⟩, by simp [intOf]; omega⟩
        · obtain rfl : k = 4 := by omega
          have cB2 := hck.cell cB (fun h => h)
          have hA2 : TreeAt wr (some ⟨G, 0, none⟩) 4 LT := (treeAt_of_row (xs := []) (by rw [List.append_nil]; exact HrowG.out)).chg hck (fun _ _ _ h => h)
          have hsort := sort_sorted (some ⟨G, 0, none⟩) 4 cap 4 B O2 LT wr (by omega) cB2 hA2 (fun k _ => ⟨(LT_dep k).1, by have := (LT_dep k).2; omega⟩) LT_mono (fun k hk => Hrk.out.cell (ordV_get hk (by omega)))
          have Hck := Lib.hid hck
          have Hsort := Lib.hid hsort
          have HA2 := Lib.hid hA2
          clear hck hsort hA2
          go_wp2_with fail
          refine Hsort.out.mono ?_
          rintro e w3 ⟨rfl, hc3⟩
          have HchW3 := Lib.hid ((HchW.out.step Hck.out).step hc3)
          have cB3 := hc3.cell cB2 (fun h => h)
          have hrk3 := Hrk.out.chg hc3 (fun h => h)
          have hG3 : G < w3.heap.size := ((HrowG.out.chg Hck.out (fun h => h)).chg hc3 (fun h => h)).lt
          have hA3 : TreeAt w3 (some ⟨G, 0, none⟩) 4 LT := HA2.out.chg hc3 (fun _ _ _ h => h)
          have Hrk3 := Lib.hid hrk3
          have HA3 := Lib.hid hA3
          have hB3 : B < w3.heap.size := blk_lt cB3
          have hO3 : O2 < w3.heap.size := hrk3.lt
          have hr1 : Row (w3.alloc (.cells (madeCells #[Value.int .i64 0] 4) 3)) w3.heap.size 3 1 4 4 (ordV 0) := Row.made (w := w3) (e := 3) (z := .int .i64 0) (n := 4) rfl (by unfold maxLen; omega)
          have Hr1 := Lib.hid hr1
          clear hr1 hrk3 hA3 cB2 cB
          go_wp2
          go_loopw [130, 20] (fun s130 v wz => ∃ k : Nat, k ≤ 4 ∧ s130 = .int .i64 k ∧ wz.ownsRow (w3.heap.size + 1) 43 3 v k (cellsOfT LT k) ∧ Row wz w3.heap.size 3 1 4 4 (ordV k) ∧ Chg NoB w3 wz) (fun s130 _ _ => 4 - (intOf s130).toNat)
          case atStart => exact ⟨0, by omega, rfl, World.ownsRow_nil _ _ _ _, Hr1.out, (Chg.refl _ _).alloc _⟩
          case round =>
            obtain ⟨k, hk4, rfl, hown, hrt, hcz⟩ := hrel
            have Hown := Lib.hid hown
            have Hrt := Lib.hid hrt
            have Hcz := Lib.hid hcz
            clear hown hrt
            by_cases hlk : k < 4
            · have ok := (Hrk3.out.chg hcz (fun h => h)).cell (ordV_get hlk (by omega))
              have ck := Hrt.out.cell (j := k) (v := .int .i64 0) (by simp [ordV, hlk])
              have fk := Hrt.out.free k
              have hlk' : (k : Int) < 4 := by omega
              have hlk32 : (k : Int) < 32 := by omega
              have cBk := hcz.cell cB3 (fun h => h)
              obtain ⟨bG, oG, hbG, hcG⟩ := (HA3.out.chg hcz (fun _ _ _ h => h)) (by omega)
              cases hbG
              obtain ⟨g0, g1, g2⟩ := hcG k hlk
              simp only [Nat.zero_add] at g0 g1 g2
              have hOw : O2 < wr.heap.size := blk_lt ok
              have hBw : B < wr.heap.size := blk_lt cBk
              have hGw : G < wr.heap.size := blk_lt g0
              have hTw : w3.heap.size < wr.heap.size := Hrt.out.lt
              have hTO : ¬ (w3.heap.size = O2) := by omega
              have hTB : ¬ (w3.heap.size = B) := by omega
              have hTG : ¬ (w3.heap.size = G) := by omega
              have hownA : ∀ x y z : Value, ((wr.setCell ⟨w3.heap.size, k, none⟩ (.int .i64 k)).alloc (.cells #[x, y, z] 43)).ownsRow (w3.heap.size + 1) 43 3 u20 k (cellsOfT LT k) := fun x y z =>
                owns_chg Hown.out (((Chg.refl (fun b => b = w3.heap.size) wr).setCell (p := ⟨w3.heap.size, k, none⟩) (fun _ => rfl) _).alloc _) (fun b hb h => by have := (Hown.out.lt b hb).1; omega)
              have hszA : ∀ x y z : Value, ((wr.setCell ⟨w3.heap.size, k, none⟩ (.int .i64 k)).alloc (.cells #[x, y, z] 43)).heap.size = wr.heap.size + 1 := fun x y z => by simp [World.setCell]
              have hpar := LT_par k
              have hnd : LT k = ⟨(LT k).par, (LT k).tok, (LT k).dep⟩ := rfl
              have Hpar := Lib.hid hpar
              clear hpar hnd
              generalize hpv : (LT k).par = pv at *
              generalize htv : (LT k).tok = tv at *
              generalize hdv : (LT k).dep = dv at *
              have hnd : ndCells (LT k) = [.int .i64 pv, .int .i64 tv, .int .i64 dv] := by rw [ndCells, hpv, htv, hdv]
              have HownA := Lib.hid hownA
              have HszA := Lib.hid hszA
              have Hnd := Lib.hid hnd
              have Hpv := Lib.hid hpv
              clear hownA hszA hnd hpv htv hdv
              have hrtS := Hrt.out.set_ k (.int .i64 (k : Int))
              rw [ordV_set hlk] at hrtS
              have HrtS := Lib.hid hrtS
              have hE : ∀ wa w5 : World, Chg NoB (wr.setCell ⟨w3.heap.size, k, none⟩ (.int .i64 k)) wa → wa.grownBy w5 u20.ownBlock → Row w5 w3.heap.size 3 1 4 4 (ordV (k + 1)) ∧ Chg NoB w3 w5 := by
                intro wa w5 hwa hg
                have hcg := Chg.of_grown hg
                have h1 : Chg NoB w3 wa := (hcz.setCell (p := ⟨w3.heap.size, k, none⟩) (fun h => by simp only at h; omega) _).step hwa
                refine ⟨(HrtS.out.chg hwa (fun h => h)).chg hcg (fun h => ?_), h1.trans hcg (fun _ _ h => h) (fun b hb h => ?_)⟩
                · have := (Hown.out.lt _ h).1; omega
                · have := (Hown.out.lt _ h).1; omega
              have HE := Lib.hid hE
              clear hrtS hcz hcG hE
              rcases Nat.eq_zero_or_pos k with rfl | hkp
              · simp only [Nat.zero_mul, Nat.zero_add] at g0 g1 g2
                go_wp2_with (first
                  | (at_builtin; refine wpList_append_own _ rfl _ _ 22 rfl (w3.heap.size + 1) 43 i0 _ 3 24 Try.underlying22 hi hz0 hz1 hz2 rfl (by decide) _ _ _ rfl ((HownA.out _ _ _).alloc _) ⟨wr.heap.size + 1, 0, none⟩ 1 1 [.int .i64 pv, .int .i64 tv, .int .i64 dv] rfl rfl ?c1 ?c2 ?c3 ?c4 ?c5 ?_)
                  | go_in)
                case c1 =>
                  have := cell_three_new ((wr.setCell ⟨w3.heap.size, 0, none⟩ (.int .i64 (0 : Int))).alloc (.cells #[.int .i64 pv, .int .i64 tv, .int .i64 dv] 43)) (.int .i64 pv) (.int .i64 tv) (.int .i64 dv) 43
                  rw [show ((wr.setCell ⟨w3.heap.size, 0, none⟩ (.int .i64 (0 : Int))).alloc (.cells #[.int .i64 pv, .int .i64 tv, .int .i64 dv] 43)).heap.size = wr.heap.size + 1 from by simp [World.setCell]] at this
                  exact this
                case c2 => exact nd_oneCell ⟨pv, tv, dv⟩
                case c3 => unfold maxLen; omega
                case c4 => omega
                case c5 => simp [World.setCell]; omega
                intro v' w5 hown' hgrow _
                have hE5 := HE.out _ w5 (((Chg.refl _ _).alloc _).alloc _) hgrow
                rw [← Hnd.out, ← cellsOfT_succ] at hown'
                have Hown' := Lib.hid hown'
                have HE5 := Lib.hid hE5
                clear hown' hE5 hgrow
                go_wp2
                exact ⟨⟨0 + 1, by omega, rfl, Hown'.out, HE5.out.1, HE5.out.2⟩, by simp [intOf]⟩
              · obtain ⟨p, rfl, hpk⟩ := Hpar.out hkp hlk
                have cto := HrtS.out.cell (ordV_get (i := k + 1) (j := p) (by omega) (by omega))
                have hp4 : (p : Int) < 4 := by omega
                have hkp' : (k : Int) > 0 := by omega
                go_wp2_with (first
                  | (at_builtin; refine wpList_append_own _ rfl _ _ 22 rfl (w3.heap.size + 1) 43 i0 _ 3 24 Try.underlying22 hi hz0 hz1 hz2 rfl (by decide) _ _ _ rfl ((HownA.out _ _ _).alloc _) ⟨wr.heap.size + 1, 0, none⟩ 1 1 [.int .i64 p, .int .i64 tv, .int .i64 dv] rfl rfl ?c1 ?c2 ?c3 ?c4 ?c5 ?_)
                  | go_in)
                case c1 =>
                  have := cell_three_new ((wr.setCell ⟨w3.heap.size, k, none⟩ (.int .i64 (k : Int))).alloc (.cells #[.int .i64 p, .int .i64 tv, .int .i64 dv] 43)) (.int .i64 p) (.int .i64 tv) (.int .i64 dv) 43
                  rw [show ((wr.setCell ⟨w3.heap.size, k, none⟩ (.int .i64 (k : Int))).alloc (.cells #[.int .i64 p, .int .i64 tv, .int .i64 dv] 43)).heap.size = wr.heap.size + 1 from by simp [World.setCell]] at this
                  exact this
                case c2 => exact nd_oneCell ⟨p, tv, dv⟩
                case c3 => unfold maxLen; omega
                case c4 => omega
                case c5 => simp [World.setCell]; omega
                intro v' w5 hown' hgrow _
                have hE5 := HE.out _ w5 (((Chg.refl _ _).alloc _).alloc _) hgrow
                rw [← Hnd.out, ← cellsOfT_succ] at hown'
                have Hown' := Lib.hid hown'
                have HE5 := Lib.hid hE5
                clear hown' hE5 hgrow
                go_wp2
                exact ⟨⟨k + 1, by omega, rfl, Hown'.out, HE5.out.1, HE5.out.2⟩, by simp [intOf]; omega⟩
            · obtain rfl : k = 4 := by omega
              obtain ⟨g, cp, rfl⟩ := ownsRow_succ Hown.out
              go_wp2
              exact bodyPost_ret (v := .tuple #[.slice (some ⟨g, 0, none⟩) 4 cp, .int .i64 0]) (by simp [results, Try.results20, go_sem]) rfl ⟨g, cp, rfl, (Row.of_owns Hown.out).2, HchW3.out.step Hcz.out⟩
end Go.Proofs.Ytokphbpgblhakaa
