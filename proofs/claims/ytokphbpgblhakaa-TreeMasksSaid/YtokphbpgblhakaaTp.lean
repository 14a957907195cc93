/- The stable sort leaves a sorted row as it is (functions 23, 24, 25, 26; few elements). -/
import Derived.Test.YtokphbpgblhakaaTo
namespace Go.Proofs.Ytokphbpgblhakaa
open Go.RowKit

set_option maxRecDepth 100000 in
theorem cmp_any (A : Option Addr) (n c B i j : Nat) (T : Nat → Nd) (W : World) (hB : W.cell? ⟨B, 0, none⟩ = some (.slice A n c)) (hA : TreeAt W A n T) (hi : i < n) (hj : j < n) (hd : ∀ k, k < n → 0 ≤ (T k).dep ∧ (T k).dep ≤ 100) :
    Calls Try.prog 24 #[.int .i64 i, .int .i64 j, .pointer (some ⟨B, 0, none⟩)] W fun e w' => e = .returned (.int .i64 ((T i).dep - (T j).dep)) ∧ ∃ q, w' = W.drewN q := by
  obtain ⟨b, off, rfl, hc⟩ := hA (by omega)
  have ci := (hc i hi).2.2
  have cj := (hc j hj).2.2
  have di := hd i hi
  have dj := hd j hj
  have h1 : (i : Int) < (n : Int) := by omega
  have h2 : (j : Int) < (n : Int) := by omega
  clear hc hA hd
  generalize (T i).dep = x at *
  generalize (T j).dep = y at *
  go_enter Try.func24, Try.ntmps24
  go_wp2
  go_quiet (fail)
  go_wp2
  exact bodyPost_ret (v := .int .i64 (x - y)) (by simp [results, Try.results24, go_sem]) rfl ⟨rfl, _, rfl⟩

set_option maxRecDepth 100000 in
set_option maxHeartbeats 1000000 in
theorem insert_sorted (A : Option Addr) (n c cap B g : Nat) (T : Nat → Nd) (W : World) (hn : n < 1000) (hB : W.cell? ⟨B, 0, none⟩ = some (.slice A n c)) (hA : TreeAt W A n T) (hd : ∀ k, k < n → 0 ≤ (T k).dep ∧ (T k).dep ≤ 100)
    (hs : ∀ k, k + 1 < n → (T k).dep ≤ (T (k + 1)).dep) (hg : ∀ k, k < n → W.cell? ⟨g, k, none⟩ = some (.int .i64 k)) :
    Calls Try.prog 26 #[.slice (some ⟨g, 0, none⟩) n cap, .int .i64 0, .int .i64 n, .func (.func 24) #[] #[.pointer (some ⟨B, 0, none⟩)]] W fun e w' => e = .returned (.tuple #[]) ∧ Chg NoB W w' := by
  have Hd := Lib.hid hd
  have Hs := Lib.hid hs
  have Hg := Lib.hid hg
  have HB := Lib.hid hB
  have HA := Lib.hid hA
  clear hd hs hg hB hA
  go_enter Try.func26, Try.ntmps26
  go_wp2
  go_loopw [8] (fun s8 wr => ∃ i : Nat, 1 ≤ i ∧ i ≤ n + 1 ∧ s8 = .int .i64 i ∧ Chg NoB W wr) (fun s8 _ => n + 1 - (intOf s8).toNat)
  case atStart => exact ⟨1, by omega, by omega, rfl, Chg.refl _ _⟩
  case round =>
    obtain ⟨i, hi1, hi2, rfl, hch⟩ := hrel
    by_cases hlt : i < n
    · have hli : (i : Int) < (n : Int) := by omega
      go_wp2
      go_loopw [9] (fun s9 wr2 => s9 = .int .i64 i ∧ Chg NoB W wr2) (fun _ _ => 0)
      case atStart => exact ⟨rfl, hch⟩
      case round =>
        obtain ⟨rfl, hch2⟩ := hrel
        obtain ⟨k, hk⟩ : ∃ k, i = k + 1 := ⟨i - 1, by omega⟩
        have g1 := hch2.cell (Hg.out i hlt) (fun h => h)
        have g0 := hch2.cell (Hg.out k (by omega)) (fun h => h)
        have hgt : (i : Int) > 0 := by omega
        have hgp : 0 < i := by omega
        have hgd : decide (0 < i) = true := by simpa using hgp
        have hk1 : (i : Int) - 1 = (k : Int) := by omega
        have hkn : (k : Int) < (n : Int) := by omega
        have hdl : decide ((T i).dep - (T k).dep < 0) = false := by rw [hk]; have := Hs.out k (by omega); simp; omega
        have hkk : k < n := by omega
        have hkw : IntKind.i64.wrap (k : Int) = (k : Int) := by rw [IntKind.wrap_i64]; omega
        have Hch2 := Lib.hid hch2
        have Hk := Lib.hid hk
        clear hch hch2 hk
        have eg := enters_of Try.func24 (by kernel_rfl) rfl
        go_wp2_with fail
        have hC : ∀ n', Calls Try.prog 24 #[.int .i64 i, .int .i64 k, .pointer (some ⟨B, 0, none⟩)] (wr.drewN n') fun e w' => e = .returned (.int .i64 ((T i).dep - (T k).dep)) ∧ ∃ q, w' = (wr.drewN n').drewN q :=
          fun n' => cmp_any A n c B i k T _ ((Hch2.out.drewN n').cell HB.out (fun h => h)) (HA.out.chg (Hch2.out.drewN n') (fun _ _ _ h => h)) hlt hkk Hd.out
        go_quiet (first | (go_at_call 24; refine Calls.quiet_of (hC _)))
        rename_i nq
        have hch4 := Hch2.out.drewN nq
        generalize wr.drewN nq = w9 at *
        go_wp2
        exact ⟨⟨i + 1, by omega, by omega, rfl, hch4⟩, by simp [intOf]; omega⟩
    · have hge : ¬ ((i : Int) < (n : Int)) := by omega
      go_wp2
      exact bodyPost_end (results_none rfl _ _ _) rfl ⟨rfl, hch⟩

set_option maxRecDepth 100000 in
set_option maxHeartbeats 1000000 in
theorem stable_sorted (A : Option Addr) (n c cap B g : Nat) (T : Nat → Nd) (W : World) (hn : n < 20) (hB : W.cell? ⟨B, 0, none⟩ = some (.slice A n c)) (hA : TreeAt W A n T) (hd : ∀ k, k < n → 0 ≤ (T k).dep ∧ (T k).dep ≤ 100)
    (hs : ∀ k, k + 1 < n → (T k).dep ≤ (T (k + 1)).dep) (hg : ∀ k, k < n → W.cell? ⟨g, k, none⟩ = some (.int .i64 k)) :
    Calls Try.prog 25 #[.slice (some ⟨g, 0, none⟩) n cap, .int .i64 n, .func (.func 24) #[] #[.pointer (some ⟨B, 0, none⟩)]] W fun e w' => e = .returned (.tuple #[]) ∧ Chg NoB W w' := by
  have hI : ∀ w, Chg NoB W w → Calls Try.prog 26 #[.slice (some ⟨g, 0, none⟩) n cap, .int .i64 0, .int .i64 n, .func (.func 24) #[] #[.pointer (some ⟨B, 0, none⟩)]] w fun e w' => e = .returned (.tuple #[]) ∧ Chg NoB w w' :=
    fun w hw => insert_sorted A n c cap B g T w (by omega) (hw.cell hB (fun h => h)) (hA.chg hw (fun _ _ _ h => h)) hd hs (fun k hk => hw.cell (hg k hk) (fun h => h))
  have HI := Lib.hid hI
  clear hI
  have h20 : ¬ ((20 : Int) ≤ (n : Int)) := by omega
  have h20' : ¬ ((20 : Int) < (n : Int)) := by omega
  have d20 : decide (20 ≤ n) = false := by simp; omega
  have d21 : decide (20 < n) = false := by simp; omega
  have hge : ¬ (20 ≤ n) := by omega
  have hgt : ¬ (20 < n) := by omega
  clear hd hs hg hB hA
  go_enter Try.func25, Try.ntmps25
  go_wp2
  go_loopw [7, 8] (fun s7 s8 wr => s7 = .int .i64 0 ∧ s8 = .int .i64 20 ∧ Chg NoB W wr) (fun _ _ _ => 0)
  case atStart => exact ⟨rfl, rfl, Chg.refl _ _⟩
  case round =>
    obtain ⟨rfl, rfl, hch⟩ := hrel
    go_wp2_with fail
    refine (HI.out _ hch).mono ?_
    rintro e w1 ⟨rfl, hc1⟩
    have hch2 := hch.step hc1
    clear hch hc1
    go_wp2
    go_loopw [6] (fun s6 wr => s6 = .int .i64 20 ∧ Chg NoB W wr) (fun _ _ => 0)
    case atStart => exact ⟨rfl, hch2⟩
    case round =>
      obtain ⟨rfl, hch⟩ := hrel
      go_wp2
      exact bodyPost_end (results_none rfl _ _ _) rfl ⟨rfl, hch⟩

set_option maxRecDepth 100000 in
theorem sort_sorted (A : Option Addr) (n c cap B g : Nat) (T : Nat → Nd) (W : World) (hn : n < 20) (hB : W.cell? ⟨B, 0, none⟩ = some (.slice A n c)) (hA : TreeAt W A n T) (hd : ∀ k, k < n → 0 ≤ (T k).dep ∧ (T k).dep ≤ 100)
    (hs : ∀ k, k + 1 < n → (T k).dep ≤ (T (k + 1)).dep) (hg : ∀ k, k < n → W.cell? ⟨g, k, none⟩ = some (.int .i64 k)) :
    Calls Try.prog 23 #[.slice (some ⟨g, 0, none⟩) n cap, .func (.func 24) #[] #[.pointer (some ⟨B, 0, none⟩)]] W fun e w' => e = .returned (.tuple #[]) ∧ Chg NoB W w' := by
  go_enter Try.func23, Try.ntmps23
  go_wp2_with fail
  refine (stable_sorted A n c cap B g T W hn hB hA hd hs hg).mono ?_
  rintro e w1 ⟨rfl, hc1⟩
  go_wp2
  exact bodyPost_end (results_none rfl _ _ _) rfl ⟨rfl, hc1⟩
end Go.Proofs.Ytokphbpgblhakaa
