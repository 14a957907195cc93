/- A tree of nodes in memory; the reference Check answers as the plain law says (function 13). -/
import Derived.Test.YtokphbpgblhakaaProg
import Derived.WalkKit
import Derived.Deep.QuietTactic
import Derived.BigQuiet
import Derived.Lib.Hide
import Derived.Deep.LoopGhost
import Derived.Test.YtokphbpgblhakaaKm
import Derived.Test.YtokphbpgblhakaaTm
namespace Go.Proofs.Ytokphbpgblhakaa
open Go.RowKit

/-- a slice of nodes -/
def TreeAt (w : World) (A : Option Addr) (n : Nat) (T : Nat → Nd) : Prop :=
  0 < n → ∃ b off, A = some ⟨b, off, none⟩ ∧ ∀ i, i < n → w.cell? ⟨b, off + i * 3, none⟩ = some (.int .i64 (T i).par) ∧ w.cell? ⟨b, off + i * 3 + 1, none⟩ = some (.int .i64 (T i).tok) ∧ w.cell? ⟨b, off + i * 3 + 2, none⟩ = some (.int .i64 (T i).dep)

def NdWf (T : Nat → Nd) (n : Nat) : Prop := ∀ i, i < n → (-9223372036854775808 ≤ (T i).par ∧ (T i).par ≤ 9223372036854775807) ∧ (-9223372036854775808 ≤ (T i).tok ∧ (T i).tok ≤ 9223372036854775807) ∧ (-9223372036854775808 ≤ (T i).dep ∧ (T i).dep ≤ 9223372036854775807)

theorem TreeAt.chg {S : Nat → Prop} {w w' : World} {A : Option Addr} {n : Nat} {T : Nat → Nd} (h : TreeAt w A n T) (hc : Chg S w w') (hS : ∀ b off, A = some ⟨b, off, none⟩ → ¬ S b) : TreeAt w' A n T := fun hn => by
  obtain ⟨b, off, rfl, hh⟩ := h hn
  have := hS b off rfl
  exact ⟨b, off, rfl, fun i hi => ⟨hc.cell (hh i hi).1 this, hc.cell (hh i hi).2.1 this, hc.cell (hh i hi).2.2 this⟩⟩

open Classical in
/-- what Check answers -/
noncomputable def chk (T : Nat → Nd) (n : Nat) : Int := if okTree T n then 0 else 140
theorem chk_yes {T : Nat → Nd} {n : Nat} (h : okTree T n) : Ending.returned (Value.int .i64 0) = .returned (.int .i64 (chk T n)) := by rw [chk, if_pos h]
theorem chk_no {T : Nat → Nd} {n : Nat} (h : ¬ okTree T n) : Ending.returned (Value.int .i64 140) = .returned (.int .i64 (chk T n)) := by rw [chk, if_neg h]

theorem refCheck_empty (A : Option Addr) (c : Nat) (T : Nat → Nd) (w : World) :
    Calls Try.prog 13 #[.slice A 0 c] w fun e w' => e = .returned (.int .i64 (chk T 0)) ∧ Chg NoB w w' := by
  have hno : ¬ okTree T 0 := fun h => by have := h.1; omega
  go_enter Try.func13, Try.ntmps13
  go_wp2
  go_ret
  exact ⟨chk_no hno, Chg.refl _ _⟩

set_option maxRecDepth 100000 in
set_option maxHeartbeats 1000000 in
theorem refCheck_bad (A : Option Addr) (n c : Nat) (T : Nat → Nd) (w : World) (hn : 1 ≤ n) (hT : TreeAt w A n T) (hbad : 32 < n ∨ (T 0).par ≠ -1 ∨ (T 0).dep ≠ 0) :
    Calls Try.prog 13 #[.slice A n c] w fun e w' => e = .returned (.int .i64 (chk T n)) ∧ Chg NoB w w' := by
  have hno : ¬ okTree T n := fun h => by obtain ⟨h1, h2, h3, h4, _⟩ := h; omega
  obtain ⟨b, off, rfl, hc⟩ := hT (by omega)
  have c0 := (hc 0 (by omega)).1
  have c2 := (hc 0 (by omega)).2.2
  simp only [Nat.zero_mul, Nat.add_zero] at c0 c2
  clear hc hT
  generalize (T 0).par = p0 at *
  generalize (T 0).dep = d0 at *
  have H := Lib.hid hno
  clear hno
  by_cases a1 : 32 < n
  · have hd : decide ((32 : Int) < (n : Int)) = true := by simp; omega
    clear hbad
    go_enter Try.func13, Try.ntmps13
    go_wp2
    go_ret
    exact ⟨chk_no H.out, Chg.refl _ _⟩
  · have hd : decide ((32 : Int) < (n : Int)) = false := by simp; omega
    by_cases a2 : p0 = -1
    · subst a2
      have hd2 : (d0 != 0) = true := by rw [bne_iff_ne]; omega
      clear hbad
      go_enter Try.func13, Try.ntmps13
      go_wp2
      go_ret
      exact ⟨chk_no H.out, Chg.refl _ _⟩
    · have hd2 : (p0 != -1) = true := by rw [bne_iff_ne]; omega
      clear hbad
      go_enter Try.func13, Try.ntmps13
      go_wp2
      go_ret
      exact ⟨chk_no H.out, Chg.refl _ _⟩

def okUpTo (T : Nat → Nd) (i : Nat) : Prop := ∀ j, 1 ≤ j → j < i → okAt T j
def noDup (T : Nat → Nd) (i k : Nat) : Prop := ∀ j, 1 ≤ j → j < k → ¬ ((T j).par = (T i).par ∧ (T j).tok = (T i).tok)
theorem okUpTo_succ {T : Nat → Nd} {i : Nat} (h : okUpTo T i) (h' : okAt T i) : okUpTo T (i + 1) := fun j h1 h2 => by
  rcases Nat.lt_or_ge j i with h3 | h3
  · exact h j h1 h3
  · obtain rfl : j = i := by omega
    exact h'
theorem noDup_succ {T : Nat → Nd} {i k : Nat} (h : noDup T i k) (h' : ¬ ((T k).par = (T i).par ∧ (T k).tok = (T i).tok)) : noDup T i (k + 1) := fun j h1 h2 => by
  rcases Nat.lt_or_ge j k with h3 | h3
  · exact h j h1 h3
  · obtain rfl : j = k := by omega
    exact h'
theorem notTree {T : Nat → Nd} {n i : Nat} (h1 : 1 ≤ i) (h2 : i < n) (h : ¬ okAt T i) : ¬ okTree T n := fun h' => h (h'.2.2.2.2 i h1 h2)

set_option maxRecDepth 100000 in
set_option maxHeartbeats 4000000 in
theorem refCheck_any (A : Option Addr) (n c : Nat) (T : Nat → Nd) (w : World) (hT : TreeAt w A n T) :
    Calls Try.prog 13 #[.slice A n c] w fun e w' => e = .returned (.int .i64 (chk T n)) ∧ Chg NoB w w' := by
  rcases Nat.eq_zero_or_pos n with rfl | h1
  · exact refCheck_empty A c T w
  by_cases hbad : 32 < n ∨ (T 0).par ≠ -1 ∨ (T 0).dep ≠ 0
  · exact refCheck_bad A n c T w h1 hT hbad
  have h2 : n ≤ 32 := by omega
  have e1 : (T 0).par = -1 := by omega
  have e2 : (T 0).dep = 0 := by omega
  obtain ⟨b, off, rfl, hc⟩ := hT h1
  have c0 := (hc 0 h1).1
  have c2 := (hc 0 h1).2.2
  rw [e1] at c0
  rw [e2] at c2
  simp only [Nat.zero_mul, Nat.add_zero] at c0 c2
  have E1 := Lib.hid e1
  have E2 := Lib.hid e2
  clear e1 e2 hbad hT
  go_enter Try.func13, Try.ntmps13
  go_wp2
  go_loopw [3] (fun s3 wr => ∃ i : Nat, 1 ≤ i ∧ i ≤ n ∧ s3 = .int .i64 i ∧ okUpTo T i ∧ Chg NoB w wr) (fun s3 _ => n - (intOf s3).toNat)
  case atStart => exact ⟨1, Nat.le_refl _, h1, rfl, fun j a b => by omega, Chg.refl _ _⟩
  case round =>
    obtain ⟨i, hi1, hin, rfl, hup, hch⟩ := hrel
    have Hup := Lib.hid hup
    clear hup
    by_cases hlt : i < n
    · have hNb : ¬ NoB b := fun h => h
      have ci0 := hch.cell (hc i hlt).1 hNb
      have ci1 := hch.cell (hc i hlt).2.1 hNb
      have ci2 := hch.cell (hc i hlt).2.2 hNb
      have hnb : b < wr.heap.size := blk_lt ci0
      obtain ⟨q, rfl⟩ : ∃ q, i = q + 1 := ⟨i - 1, by omega⟩
      have hqn : (q : Int) < (n : Int) := by omega
      have Hok : Hid (¬ okAt T (q + 1) → ¬ okTree T n) := fun h => notTree hi1 hlt h
      have Hdef : Hid (okAt T (q + 1) ↔ okAt T (q + 1)) := Iff.rfl
      unfold okAt at Hdef
      obtain ⟨pi, hpi⟩ : ∃ x, x = (T (q + 1)).par := ⟨_, rfl⟩
      obtain ⟨ti, hti⟩ : ∃ x, x = (T (q + 1)).tok := ⟨_, rfl⟩
      obtain ⟨di, hdi⟩ : ∃ x, x = (T (q + 1)).dep := ⟨_, rfl⟩
      rw [← hpi] at ci0
      rw [← hti] at ci1
      rw [← hdi] at ci2
      have Hp := Lib.hid hpi
      have Ht := Lib.hid hti
      have Hd := Lib.hid hdi
      clear hpi hti hdi Hdef
      by_cases a1 : pi < 0
      · have hd1 : decide (pi < 0) = true := by simp; exact a1
        go_wp2
        go_quiet (fail)
        go_wp2
        go_ret
        exact ⟨chk_no (Hok.out fun h => by have := h.1; rw [← Hp.out] at this; omega), (hch.alloc _).drewN _⟩
      have hd1 : decide (pi < 0) = false := by simp; omega
      by_cases a2 : (q : Int) + 1 ≤ pi
      · have hd2 : decide ((q : Int) + 1 ≤ pi) = true := by simp; exact a2
        go_wp2
        go_quiet (fail)
        go_wp2
        go_ret
        exact ⟨chk_no (Hok.out fun h => by have := h.2.1; rw [← Hp.out] at this; omega), (hch.alloc _).drewN _⟩
      have hd2 : decide ((q : Int) + 1 ≤ pi) = false := by simp; omega
      by_cases a3 : ti < 1
      · have hd3 : decide (ti < 1) = true := by simp; exact a3
        go_wp2
        go_quiet (fail)
        go_wp2
        go_ret
        exact ⟨chk_no (Hok.out fun h => by have := h.2.2.1; rw [← Ht.out] at this; omega), (hch.alloc _).drewN _⟩
      have hd3 : decide (ti < 1) = false := by simp; omega
      obtain ⟨p, rfl⟩ : ∃ p : Nat, pi = p := ⟨pi.toNat, by omega⟩
      have hpn : (p : Int) < (n : Int) := by omega
      have hpq : p < q + 1 := by omega
      have cp := hch.cell (hc p (by omega)).2.2 hNb
      have cq := hch.cell (hc q (by omega)).2.2 hNb
      obtain ⟨dp, hdp⟩ : ∃ x, x = (T p).dep := ⟨_, rfl⟩
      obtain ⟨dq, hdq⟩ : ∃ x, x = (T q).dep := ⟨_, rfl⟩
      rw [← hdp] at cp
      rw [← hdq] at cq
      have Hdp := Lib.hid hdp
      have Hdq := Lib.hid hdq
      clear hdp hdq
      by_cases a4 : di = wrap64 (dp + 1)
      · have hd4 : (di != wrap64 (dp + 1)) = false := by rw [bne_eq_false_iff_eq]; exact a4
        have H4 := Lib.hid a4
        clear a4
        by_cases a5 : di < dq
        · have hd5 : decide (di < dq) = true := by simp; exact a5
          go_wp2
          go_quiet (fail)
          go_wp2
          go_ret
          exact ⟨chk_no (Hok.out fun h => by have := h.2.2.2.2.1; rw [← Hd.out, Nat.add_sub_cancel, ← Hdq.out] at this; omega), (hch.alloc _).drewN _⟩
        have hd5 : decide (di < dq) = false := by simp; omega
        go_wp2
        go_quiet (fail)
        go_wp2
        rename_i nq
        have hb0 : ((wr.alloc (.cells #[.int .i64 p, .int .i64 ti, .int .i64 di] 43)).drewN nq).cell? ⟨wr.heap.size, 0, none⟩ = some (.int .i64 p) := by simp
        have hb1 : ((wr.alloc (.cells #[.int .i64 p, .int .i64 ti, .int .i64 di] 43)).drewN nq).cell? ⟨wr.heap.size, 1, none⟩ = some (.int .i64 ti) := by simp
        have hcw : Chg NoB w ((wr.alloc (.cells #[.int .i64 p, .int .i64 ti, .int .i64 di] 43)).drewN nq) := (hch.alloc _).drewN _
        generalize (wr.alloc (.cells #[.int .i64 p, .int .i64 ti, .int .i64 di] 43)).drewN nq = wo at *
        clear hch ci0 ci1 ci2 cp cq hnb
        generalize wr.heap.size = g at *
        go_loopw [5] (fun s5 wx => ∃ k m : Nat, 1 ≤ k ∧ k ≤ q + 1 ∧ s5 = .int .i64 k ∧ noDup T (q + 1) k ∧ wx = wo.drewN m) (fun s5 _ => n - (intOf s5).toNat)
        case atStart => exact ⟨1, 0, Nat.le_refl _, by omega, rfl, fun j a b => by omega, rfl⟩
        case round =>
          obtain ⟨k, m, hk1, hk2, rfl, hnd, rfl⟩ := hrel
          have Hnd := Lib.hid hnd
          clear hnd
          by_cases hki : k < q + 1
          · have ck0 := hcw.cell (hc k (by omega)).1 hNb
            have ck1 := hcw.cell (hc k (by omega)).2.1 hNb
            have hkn : (k : Int) < (n : Int) := by omega
            obtain ⟨pk, hpk⟩ : ∃ x, x = (T k).par := ⟨_, rfl⟩
            obtain ⟨tk, htk⟩ : ∃ x, x = (T k).tok := ⟨_, rfl⟩
            rw [← hpk] at ck0
            rw [← htk] at ck1
            have Hpk := Lib.hid hpk
            have Htk := Lib.hid htk
            clear hpk htk
            by_cases f1 : pk = (p : Int)
            · subst f1
              by_cases f2 : tk = ti
              · have g2 : (tk == ti) = true := by simpa using f2
                have F2 := Lib.hid f2
                clear f2
                go_wp2
                go_quiet (fail)
                go_wp2
                go_ret
                exact ⟨chk_no (Hok.out fun h => h.2.2.2.2.2 k hk1 hki ⟨by rw [← Hpk.out, ← Hp.out], by rw [← Htk.out, ← Ht.out]; exact F2.out⟩), (hcw.drewN _).drewN _⟩
              · have g2 : (tk == ti) = false := by simpa using f2
                have F2 := Lib.hid f2
                clear f2
                go_wp2
                go_quiet (fail)
                go_wp2
                go_roundw
                case rel => exact ⟨k + 1, _, by omega, by omega, by go_num, noDup_succ Hnd.out (fun h => F2.out (by rw [Htk.out, Ht.out]; exact h.2)), rfl⟩
                case measure => simp [intOf]; omega
            · have g1 : (pk == (p : Int)) = false := by simpa using f1
              have F1 := Lib.hid f1
              clear f1
              go_wp2
              go_quiet (fail)
              go_wp2
              go_roundw
              case rel => exact ⟨k + 1, _, by omega, by omega, by go_num, noDup_succ Hnd.out (fun h => F1.out (by rw [Hpk.out, Hp.out]; exact h.1)), rfl⟩
              case measure => simp [intOf]; omega
          · obtain rfl : k = q + 1 := by omega
            have hok : okAt T (q + 1) := ⟨by rw [← Hp.out]; omega, by rw [← Hp.out]; omega, by rw [← Ht.out]; omega, by rw [← Hd.out, ← Hp.out]; simp only [Int.toNat_natCast]; rw [← Hdp.out]; exact H4.out,
              by rw [Nat.add_sub_cancel, ← Hd.out, ← Hdq.out]; omega, Hnd.out⟩
            have Hk := Lib.hid hok
            clear hok
            go_wp2
            go_roundw
            case rel => exact ⟨q + 1 + 1, by omega, by omega, by go_num, okUpTo_succ Hup.out Hk.out, hcw.drewN _⟩
            case measure => simp [intOf]; omega
      · have hd4 : (di != wrap64 (dp + 1)) = true := by rw [bne_iff_ne]; exact a4
        have H4 := Lib.hid a4
        clear a4
        go_wp2
        go_quiet (fail)
        go_wp2
        go_ret
        exact ⟨chk_no (Hok.out fun h => H4.out (by have := h.2.2.2.1; rw [← Hd.out, ← Hp.out] at this; simp only [Int.toNat_natCast] at this; rw [← Hdp.out] at this; exact this)), (hch.alloc _).drewN _⟩
    · obtain rfl : i = n := by omega
      have hok : okTree T i := ⟨h1, h2, E1.out, E2.out, Hup.out⟩
      have Hk := Lib.hid hok
      clear hok
      go_wp2
      go_ret
      exact ⟨chk_yes Hk.out, hch⟩
end Go.Proofs.Ytokphbpgblhakaa
