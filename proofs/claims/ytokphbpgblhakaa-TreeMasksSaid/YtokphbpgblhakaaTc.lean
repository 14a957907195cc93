/- The map key of a node and the Check of the package (function 17) answers as the plain law says. -/
import Derived.Test.YtokphbpgblhakaaTb
import Derived.DeepKeys5
import Derived.KernelRfl
namespace Go.Proofs.Ytokphbpgblhakaa
open Go.RowKit Go.Maps

theorem laid : laidOutB Try.prog = true := by kernel_rfl
theorem keyType59 : Try.prog.keyType 59 = true := by kernel_rfl
theorem types59 : Try.prog.types.size + 2 ≤ 10000 := of_decide_eq_true (by kernel_rfl)
theorem row59 : 59 < Try.prog.types.size := of_decide_eq_true (by kernel_rfl)
theorem wide59 : (match Try.prog.underlying 59 with | some (.array _ _) | some (.struct _) => true | _ => false) = true := by rw [Try.underlying59]
theorem law59 : Keyed Try.prog 59 := Keyed.of_law (deep_law_gate laid types59 row59 keyType59 wide59)
theorem cells59 : Try.prog.cellsOf 59 = 2 := by kernel_rfl
theorem cells3 : Try.prog.cellsOf 3 = 1 := by kernel_rfl
theorem zero3 (w : World) : (zeroValue 3).run Try.prog w = .ok (.int .i64 0) w := by kernel_rfl

theorem wf64 {a : Int} (h1 : -9223372036854775808 ≤ a) (h2 : a ≤ 9223372036854775807) : (Lit.int .i64 a).wf = true := WalkArith.wf_i64 ⟨h1, h2⟩

theorem keyLits3 (d : Nat) {a : Int} (h : (Lit.int .i64 a).wf = true) : Try.prog.keyLits (d + 1) 3 [.int .i64 a] = some [.int .i64 a] := by
  simp [Program.keyLits, Try.underlying3, h]

theorem keyOk59 {a b : Int} (ha1 : -9223372036854775808 ≤ a) (ha2 : a ≤ 9223372036854775807) (hb1 : -9223372036854775808 ≤ b) (hb2 : b ≤ 9223372036854775807) :
    KeyOk Try.prog 59 (.agg #[.int .i64 a, .int .i64 b]) := by
  obtain ⟨m, hm⟩ : ∃ m, Try.prog.types.size = m + 1 := ⟨Try.prog.types.size - 1, by have := row59; omega⟩
  have hwa := wf64 ha1 ha2
  have hwb := wf64 hb1 hb2
  have hf : (Value.agg #[.int .i64 a, .int .i64 b]).formed Try.prog 59 = true := by simp [Value.formed, Try.underlying59, cells59]
  have hl : Try.prog.keyLits (Try.prog.types.size + 1) 59 (Value.agg #[.int .i64 a, .int .i64 b]).cells.toList = some [.int .i64 a, .int .i64 b] := by
    rw [hm]
    unfold Program.keyLits
    simp only [Try.underlying59, cells59, Value.cells]
    simp [cells3, keyLits3 m hwa, keyLits3 m hwb]
  refine ⟨.string (keyBytes [.int .i64 a, .int .i64 b]), ?_⟩
  unfold keyOf
  rw [Try.underlying59]
  simp only [keyType59, hf, hl, Bool.and_self, if_true, Option.map_some]

/-- the branch of a node -/
def br (T : Nat → Nd) (j : Nat) : Value := .agg #[.int .i64 (T j).par, .int .i64 (T j).tok]
/-- the map's entries ahead of node i -/
def ents (T : Nat → Nd) (i : Nat) : List (Value × Value) := (List.range (i - 1)).map fun j => (br T (j + 1), .int .i64 ((j + 1 : Nat) : Int))
theorem ents_succ (T : Nat → Nd) {i : Nat} (h : 1 ≤ i) : ents T (i + 1) = ents T i ++ [(br T i, .int .i64 (i : Int))] := by
  obtain ⟨q, rfl⟩ : ∃ q, i = q + 1 := ⟨i - 1, by omega⟩
  simp [ents, List.range_succ]
theorem mem_ents {T : Nat → Nd} {i : Nat} {p : Value × Value} : p ∈ ents T i ↔ ∃ j, 1 ≤ j ∧ j < i ∧ p = (br T j, .int .i64 (j : Int)) := by
  simp only [ents, List.mem_map, List.mem_range]
  constructor
  · rintro ⟨j, hj, rfl⟩; exact ⟨j + 1, by omega, by omega, rfl⟩
  · rintro ⟨j, h1, h2, rfl⟩; exact ⟨j - 1, by omega, by rw [show j - 1 + 1 = j from by omega]⟩
theorem br_eq {T : Nat → Nd} {i j : Nat} : br T j = br T i ↔ (T j).par = (T i).par ∧ (T j).tok = (T i).tok := by simp [br]
theorem br_ok {T : Nat → Nd} {n i : Nat} (hw : NdWf T n) (h : i < n) : KeyOk Try.prog 59 (br T i) := by
  obtain ⟨⟨a, b⟩, ⟨c, d⟩, _⟩ := hw i h
  exact keyOk59 a b c d

set_option maxRecDepth 100000 in
set_option maxHeartbeats 1000000 in
theorem tCheck_bad (A : Option Addr) (n c : Nat) (T : Nat → Nd) (w : World) (hT : TreeAt w A n T) (hbad : n = 0 ∨ 32 < n ∨ (T 0).par ≠ -1 ∨ (T 0).dep ≠ 0) :
    Calls Try.prog 17 #[.slice A n c] w fun e w' => e = .returned (.int .i64 (chk T n)) ∧ Chg NoB w w' := by
  have hno : ¬ okTree T n := fun h => by obtain ⟨h1, h2, h3, h4, _⟩ := h; omega
  have H := Lib.hid hno
  clear hno
  rcases Nat.eq_zero_or_pos n with rfl | hn
  · clear hbad
    go_enter Try.func17, Try.ntmps17
    go_wp2
    go_ret
    exact ⟨chk_no H.out, Chg.refl _ _⟩
  obtain ⟨b, off, rfl, hc⟩ := hT (by omega)
  have c0 := (hc 0 (by omega)).1
  have c2 := (hc 0 (by omega)).2.2
  simp only [Nat.zero_mul, Nat.add_zero] at c0 c2
  clear hc hT
  generalize (T 0).par = p0 at *
  generalize (T 0).dep = d0 at *
  by_cases a1 : 32 < n
  · have hd : decide ((32 : Int) < (n : Int)) = true := by simp; omega
    clear hbad
    go_enter Try.func17, Try.ntmps17
    go_wp2
    go_ret
    exact ⟨chk_no H.out, Chg.refl _ _⟩
  · have hd : decide ((32 : Int) < (n : Int)) = false := by simp; omega
    by_cases a2 : p0 = -1
    · subst a2
      have hd2 : (d0 != 0) = true := by rw [bne_iff_ne]; omega
      clear hbad
      go_enter Try.func17, Try.ntmps17
      go_wp2
      go_ret
      exact ⟨chk_no H.out, Chg.refl _ _⟩
    · have hd2 : (p0 != -1) = true := by rw [bne_iff_ne]; omega
      clear hbad
      go_enter Try.func17, Try.ntmps17
      go_wp2
      go_ret
      exact ⟨chk_no H.out, Chg.refl _ _⟩

set_option maxRecDepth 100000 in
set_option maxHeartbeats 4000000 in
theorem tCheck_any (A : Option Addr) (n c : Nat) (T : Nat → Nd) (w : World) (hT : TreeAt w A n T) (hw : NdWf T n) :
    Calls Try.prog 17 #[.slice A n c] w fun e w' => e = .returned (.int .i64 (chk T n)) ∧ Chg NoB w w' := by
  by_cases hbad : n = 0 ∨ 32 < n ∨ (T 0).par ≠ -1 ∨ (T 0).dep ≠ 0
  · exact tCheck_bad A n c T w hT hbad
  have h1 : 1 ≤ n := by omega
  have h2 : n ≤ 32 := by omega
  have e1 : (T 0).par = -1 := by omega
  have e2 : (T 0).dep = 0 := by omega
  obtain ⟨b, off, rfl, hc⟩ := hT h1
  have c0 := (hc 0 h1).1
  have c2 := (hc 0 h1).2.2
  rw [e1] at c0
  rw [e2] at c2
  simp only [Nat.zero_mul, Nat.add_zero] at c0 c2
  have E1 := Lib.hid e1
  have E2 := Lib.hid e2
  have Hw := Lib.hid hw
  clear e1 e2 hbad hT hw
  have hmm := @run_makeMap Try.prog
  go_enter Try.func17, Try.ntmps17
  go_wp2
  have hm0 : MapIs Try.prog 59 (w.alloc (.map #[] 0)) w.heap.size (ents T 0) := MapIs.made _ _ _
  have hmb : ∀ i, b ≠ w.heap.size := fun _ => by have : b < w.heap.size := blk_lt c0; omega
  go_loopw [34] (fun s34 wr => ∃ i : Nat, i ≤ n ∧ s34 = .int .i64 i ∧ okUpTo T i ∧ Chg NoB w wr ∧ MapIs Try.prog 59 wr w.heap.size (ents T i)) (fun s34 _ => n - (intOf s34).toNat)
  case atStart => exact ⟨0, Nat.zero_le _, rfl, fun j a b => by omega, (Chg.refl _ _).alloc _, hm0⟩
  case round =>
    obtain ⟨i, hin, rfl, hup, hch, hm⟩ := hrel
    have Hup := Lib.hid hup
    have Hm := Lib.hid hm
    clear hup hm hm0
    by_cases hlt : i < n
    · have hNb : ¬ NoB b := fun h => h
      have ci0 := hch.cell (hc i hlt).1 hNb
      have ci1 := hch.cell (hc i hlt).2.1 hNb
      have ci2 := hch.cell (hc i hlt).2.2 hNb
      have hnb : b < wr.heap.size := blk_lt ci0
      rcases Nat.eq_zero_or_pos i with rfl | hi1
      · simp only [Nat.zero_mul, Nat.add_zero] at ci0 ci1 ci2
        go_wp2
        go_roundw
        case rel => exact ⟨1, h1, rfl, fun j a b => by omega, hch.alloc _, Hm.out.alloc _⟩
        case measure => simp [intOf]; omega
      obtain ⟨q, rfl⟩ : ∃ q, i = q + 1 := ⟨i - 1, by omega⟩
      have hqn : (q : Int) < (n : Int) := by omega
      have Hok : Hid (¬ okAt T (q + 1) → ¬ okTree T n) := fun h => notTree hi1 hlt h
      obtain ⟨pi, hpi⟩ : ∃ x, x = (T (q + 1)).par := ⟨_, rfl⟩
      obtain ⟨ti, hti⟩ : ∃ x, x = (T (q + 1)).tok := ⟨_, rfl⟩
      obtain ⟨di, hdi⟩ : ∃ x, x = (T (q + 1)).dep := ⟨_, rfl⟩
      rw [← hpi] at ci0
      rw [← hti] at ci1
      rw [← hdi] at ci2
      have Hp := Lib.hid hpi
      have Ht := Lib.hid hti
      have Hd := Lib.hid hdi
      clear hpi hti hdi
      by_cases a1 : pi < 0
      · have hd1 : decide (pi < 0) = true := by simp; exact a1
        go_wp2
        go_quiet (fail)
        go_wp2
        go_ret
        exact ⟨chk_no (Hok.out fun h => by have := h.1; rw [← Hp.out] at this; omega), (hch.alloc _).drewN _⟩
      have hd1 : decide (pi < 0) = false := by simp; omega
      by_cases a2 : (q : Int) + 1 ≤ pi
      · have hd2 : decide ((q : Int) + 1 ≤ pi) = true := by simp; exact a2
        go_wp2
        go_quiet (fail)
        go_wp2
        go_ret
        exact ⟨chk_no (Hok.out fun h => by have := h.2.1; rw [← Hp.out] at this; omega), (hch.alloc _).drewN _⟩
      have hd2 : decide ((q : Int) + 1 ≤ pi) = false := by simp; omega
      by_cases a3 : ti < 1
      · have hd3 : decide (ti < 1) = true := by simp; exact a3
        go_wp2
        go_quiet (fail)
        go_wp2
        go_ret
        exact ⟨chk_no (Hok.out fun h => by have := h.2.2.1; rw [← Ht.out] at this; omega), (hch.alloc _).drewN _⟩
      have hd3 : decide (ti < 1) = false := by simp; omega
      obtain ⟨p, rfl⟩ : ∃ p : Nat, pi = p := ⟨pi.toNat, by omega⟩
      have hpn : (p : Int) < (n : Int) := by omega
      have hpq : p < q + 1 := by omega
      have cp := hch.cell (hc p (by omega)).2.2 hNb
      have cq := hch.cell (hc q (by omega)).2.2 hNb
      obtain ⟨dp, hdp⟩ : ∃ x, x = (T p).dep := ⟨_, rfl⟩
      obtain ⟨dq, hdq⟩ : ∃ x, x = (T q).dep := ⟨_, rfl⟩
      rw [← hdp] at cp
      rw [← hdq] at cq
      have Hdp := Lib.hid hdp
      have Hdq := Lib.hid hdq
      clear hdp hdq
      by_cases a4 : di = wrap64 (dp + 1)
      · have hd4 : (di != wrap64 (dp + 1)) = false := by rw [bne_eq_false_iff_eq]; exact a4
        have H4 := Lib.hid a4
        clear a4
        by_cases a5 : di < dq
        · have hd5 : decide (di < dq) = true := by simp; exact a5
          go_wp2
          go_quiet (fail)
          go_wp2
          go_ret
          exact ⟨chk_no (Hok.out fun h => by have := h.2.2.2.2.1; rw [← Hd.out, Nat.add_sub_cancel, ← Hdq.out] at this; omega), (hch.alloc _).drewN _⟩
        have hd5 : decide (di < dq) = false := by simp; omega
        go_wp2
        go_quiet (fail)
        rename_i nq
        have hb0 : ((wr.alloc (.cells #[.int .i64 p, .int .i64 ti, .int .i64 di] 43)).drewN nq).cell? ⟨wr.heap.size, 0, none⟩ = some (.int .i64 p) := by simp
        have hb1 : ((wr.alloc (.cells #[.int .i64 p, .int .i64 ti, .int .i64 di] 43)).drewN nq).cell? ⟨wr.heap.size, 1, none⟩ = some (.int .i64 ti) := by simp
        have hcw : Chg NoB w ((wr.alloc (.cells #[.int .i64 p, .int .i64 ti, .int .i64 di] 43)).drewN nq) := (hch.alloc _).drewN _
        have hm : MapIs Try.prog 59 ((wr.alloc (.cells #[.int .i64 p, .int .i64 ti, .int .i64 di] 43)).drewN nq) w.heap.size (ents T (q + 1)) := (Hm.out.alloc _).drewN _
        have hgl : wr.heap.size < ((wr.alloc (.cells #[.int .i64 p, .int .i64 ti, .int .i64 di] 43)).drewN nq).heap.size := by simp
        generalize (wr.alloc (.cells #[.int .i64 p, .int .i64 ti, .int .i64 di] 43)).drewN nq = wo at *
        clear hch ci0 ci1 ci2 cp cq hnb
        generalize wr.heap.size = g at *
        have hkey : KeyOk Try.prog 59 (.agg #[.int .i64 p, .int .i64 ti]) := by
          have := br_ok Hw.out hlt
          unfold br at this
          rw [← Hp.out, ← Ht.out] at this
          exact this
        have hmA := hm.alloc (.cells #[.int .i64 p, .int .i64 ti] 59)
        clear hm
        by_cases hdup : noDup T (q + 1) (q + 1)
        · have hmiss : ∀ x ∈ ents T (q + 1), x.1 ≠ .agg #[.int .i64 p, .int .i64 ti] := by
            intro x hx e
            obtain ⟨j, hj1, hj2, rfl⟩ := mem_ents.1 hx
            refine hdup j hj1 hj2 (br_eq.1 ?_)
            rw [br, br, ← Hp.out, ← Ht.out]
            exact e
          have hl := hmA.lookup_miss law59 Try.underlying57 (zero3 _) hkey hmiss true
          simp only [if_true] at hl
          obtain ⟨w2, hst, hm2, hc2⟩ := hmA.store_new law59 Try.underlying57 (v := .int .i64 ((q : Int) + 1)) hkey hmiss
          have hok : okAt T (q + 1) := ⟨by rw [← Hp.out]; omega, by rw [← Hp.out]; omega, by rw [← Ht.out]; omega, by rw [← Hd.out, ← Hp.out]; simp only [Int.toNat_natCast]; rw [← Hdp.out]; exact H4.out,
            by rw [Nat.add_sub_cancel, ← Hd.out, ← Hdq.out]; omega, hdup⟩
          have hch2 : Chg NoB w w2 := (hcw.alloc _).trans hc2 (fun _ _ h => h) (fun i hi h => by omega)
          have hm3 : MapIs Try.prog 59 w2 w.heap.size (ents T (q + 1 + 1)) := by
            rw [ents_succ T (by omega), br, ← Hp.out, ← Ht.out]
            exact hm2
          have Hk := Lib.hid hok
          have Hch2 := Lib.hid hch2
          have Hm3 := Lib.hid hm3
          clear hok hdup hmiss hm2 hc2 hch2 hm3 hmA hkey
          go_wp2
          go_roundw
          case rel => exact ⟨q + 1 + 1, by omega, by go_num, okUpTo_succ Hup.out Hk.out, Hch2.out, Hm3.out⟩
          case measure => simp [intOf]; omega
        · have hex : ∃ j, 1 ≤ j ∧ j < q + 1 ∧ (T j).par = (T (q + 1)).par ∧ (T j).tok = (T (q + 1)).tok := by
            apply Classical.byContradiction
            intro h
            exact hdup fun j a b c => h ⟨j, a, b, c.1, c.2⟩
          obtain ⟨j, hj1, hj2, hj3, hj4⟩ := hex
          have hin' : ((.agg #[.int .i64 p, .int .i64 ti], .int .i64 (j : Int)) : Value × Value) ∈ ents T (q + 1) := by
            refine mem_ents.2 ⟨j, hj1, hj2, ?_⟩
            rw [br, hj3, hj4, ← Hp.out, ← Ht.out]
          have hl := hmA.lookup_hit law59 Try.underlying57 hkey hin' true
          simp only [if_true] at hl
          have Hno := Lib.hid (Hok.out fun h => hdup h.2.2.2.2.2)
          clear hdup hj3 hj4 hin' hmA hkey
          go_wp2
          go_ret
          exact ⟨chk_no Hno.out, hcw.alloc _⟩
      · have hd4 : (di != wrap64 (dp + 1)) = true := by rw [bne_iff_ne]; exact a4
        have H4 := Lib.hid a4
        clear a4
        go_wp2
        go_quiet (fail)
        go_wp2
        go_ret
        exact ⟨chk_no (Hok.out fun h => H4.out (by have := h.2.2.2.1; rw [← Hd.out, ← Hp.out] at this; simp only [Int.toNat_natCast] at this; rw [← Hdp.out] at this; exact this)), (hch.alloc _).drewN _⟩
    · obtain rfl : i = n := by omega
      have hok : okTree T i := ⟨h1, h2, E1.out, E2.out, Hup.out⟩
      have Hk := Lib.hid hok
      clear hok
      go_wp2
      go_ret
      exact ⟨chk_yes Hk.out, hch⟩
end Go.Proofs.Ytokphbpgblhakaa
