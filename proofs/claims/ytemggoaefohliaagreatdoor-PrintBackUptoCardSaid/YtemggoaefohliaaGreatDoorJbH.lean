/- Joined: CkD, CkE, CkF, CkG, CkH, CkI, DqE, PbF, DaA, DaB, DaC, DaD, DqF. No condition beyond those of its lemmas. -/
import Derived.Test.YtemggoaefohliaaGreatDoorJbG
import Derived.Test.YtemggoaefohliaaGreatDoorJbD
import Derived.Test.YtemggoaefohliaaGreatDoorProg
import Derived.WalkKit
import Derived.LaidEql
import Derived.Stop.Asserts
import Derived.RowKitTokens
import Derived.KernelRfl
import Derived.Test.YtemggoaefohliaaGreatDoorRows
import Derived.LaidHandle
import Derived.LaidLaws
import Derived.Stop.Joined
/- The reference's Check, evaluated (made by genck.py). No condition. -/
namespace Go.Proofs.YtemggoaefohliaaGreatDoor.CK
set_option linter.unusedVariables false
set_option linter.unusedSimpArgs false
open Go AE EX PT
set_option maxRecDepth 100000


set_option maxHeartbeats 4000000 in
theorem fits_text (n : Nat) (hn : 40 ≤ n) (k : Int) (nm : List UInt8) (a lo hi : Int) (ks : AV) (hks : ks.isCell = true) (S : St)
    (hk : k = 3) : FitsOut n k nm a lo hi ks S := by
  unfold FitsOut
  have hp : ev Tryz.prog E (n + 3) 58 [.str nm] S = some (.ret (.bool (plainB nm)), S) := ev_Plain (n + 2) (by omega) nm S
  rw [ev_enter (n := n + 3) (show E.ok 35 = true from rfl) Tryz.func35 (fn := Tryz.f35) rfl (Nat.le_of_ble_eq_true rfl) (by decide +kernel)]
  cases h0 : plainB nm
  · refine ⟨false, ?_, iff_of_false (by simp) fun f => by have := f.text (by omega); rw [h0] at this; cases this⟩
    rw [h0] at hp; subst hk;
      simp (disch := first | (simp only [List.length_append, List.length_cons, List.length_nil]; omega) | (simp; done) | assumption) [AV.cells?, AV.isCell, Tryz.f35, E_esc, k24, c24, a24, k3, c3, a3, k2, c2, a2, k9, c9, a9, fq0, fq1, fq2, fq3, fq4, bq3, bq2, bq9, hks, -AV.isCell, bne, h0, hp]
  rw [h0] at hp
  cases h1 : (a == 0)
  · refine ⟨false, ?_, iff_of_false (by simp) fun f => by have := f.num (by omega) (by omega); subst this; simp at h1⟩
    subst hk;
      simp (disch := first | (simp only [List.length_append, List.length_cons, List.length_nil]; omega) | (simp; done) | assumption) [AV.cells?, AV.isCell, Tryz.f35, E_esc, k24, c24, a24, k3, c3, a3, k2, c2, a2, k9, c9, a9, fq0, fq1, fq2, fq3, fq4, bq3, bq2, bq9, hks, -AV.isCell, bne, h0, hp, h1]
  cases h2 : (lo == 0)
  · refine ⟨false, ?_, iff_of_false (by simp) fun f => by have := (f.zero (by omega)).1; subst this; simp at h2⟩
    subst hk;
      simp (disch := first | (simp only [List.length_append, List.length_cons, List.length_nil]; omega) | (simp; done) | assumption) [AV.cells?, AV.isCell, Tryz.f35, E_esc, k24, c24, a24, k3, c3, a3, k2, c2, a2, k9, c9, a9, fq0, fq1, fq2, fq3, fq4, bq3, bq2, bq9, hks, -AV.isCell, bne, h0, hp, h1, h2]
  refine ⟨hi == 0, ?_, fun h => ?_, fun f => by have := (f.zero (by omega)).2; simp [this]⟩
  · subst hk;
      simp (disch := first | (simp only [List.length_append, List.length_cons, List.length_nil]; omega) | (simp; done) | assumption) [AV.cells?, AV.isCell, Tryz.f35, E_esc, k24, c24, a24, k3, c3, a3, k2, c2, a2, k9, c9, a9, fq0, fq1, fq2, fq3, fq4, bq3, bq2, bq9, hks, -AV.isCell, bne, h0, hp, h1, h2]
  · have e2 : a = 0 := by simpa using h1
    have e3 : lo = 0 := by simpa using h2
    have e4 : hi = 0 := by simpa using h
    exact ⟨fun _ => h0, by omega, fun hh => absurd (.inl hk) hh, by omega, by omega, fun _ _ => e2, by omega, by omega, fun _ => ⟨e3, e4⟩⟩

set_option maxHeartbeats 4000000 in
theorem fits_named (n : Nat) (hn : 40 ≤ n) (k : Int) (nm : List UInt8) (a lo hi : Int) (ks : AV) (hks : ks.isCell = true) (S : St)
    (hk : k = 5 ∨ k = 6 ∨ k = 21) : FitsOut n k nm a lo hi ks S := by
  unfold FitsOut
  have hp : ev Tryz.prog E (n + 3) 59 [.str nm] S = some (.ret (.bool (nameB nm)), S) := ev_Name n (by omega) nm S
  rw [ev_enter (n := n + 3) (show E.ok 35 = true from rfl) Tryz.func35 (fn := Tryz.f35) rfl (Nat.le_of_ble_eq_true rfl) (by decide +kernel)]
  cases h0 : nameB nm
  · refine ⟨false, ?_, iff_of_false (by simp) fun f => by have := f.name (by omega); rw [h0] at this; cases this⟩
    rw [h0] at hp; rcases hk with rfl | rfl | rfl <;>
      simp (disch := first | (simp only [List.length_append, List.length_cons, List.length_nil]; omega) | (simp; done) | assumption) [AV.cells?, AV.isCell, Tryz.f35, E_esc, k24, c24, a24, k3, c3, a3, k2, c2, a2, k9, c9, a9, fq0, fq1, fq2, fq3, fq4, bq3, bq2, bq9, hks, -AV.isCell, bne, h0, hp]
  rw [h0] at hp
  cases h1 : (a == 0)
  · refine ⟨false, ?_, iff_of_false (by simp) fun f => by have := f.num (by omega) (by omega); subst this; simp at h1⟩
    rcases hk with rfl | rfl | rfl <;>
      simp (disch := first | (simp only [List.length_append, List.length_cons, List.length_nil]; omega) | (simp; done) | assumption) [AV.cells?, AV.isCell, Tryz.f35, E_esc, k24, c24, a24, k3, c3, a3, k2, c2, a2, k9, c9, a9, fq0, fq1, fq2, fq3, fq4, bq3, bq2, bq9, hks, -AV.isCell, bne, h0, hp, h1]
  cases h2 : (lo == 0)
  · refine ⟨false, ?_, iff_of_false (by simp) fun f => by have := (f.zero (by omega)).1; subst this; simp at h2⟩
    rcases hk with rfl | rfl | rfl <;>
      simp (disch := first | (simp only [List.length_append, List.length_cons, List.length_nil]; omega) | (simp; done) | assumption) [AV.cells?, AV.isCell, Tryz.f35, E_esc, k24, c24, a24, k3, c3, a3, k2, c2, a2, k9, c9, a9, fq0, fq1, fq2, fq3, fq4, bq3, bq2, bq9, hks, -AV.isCell, bne, h0, hp, h1, h2]
  refine ⟨hi == 0, ?_, fun h => ?_, fun f => by have := (f.zero (by omega)).2; simp [this]⟩
  · rcases hk with rfl | rfl | rfl <;>
      simp (disch := first | (simp only [List.length_append, List.length_cons, List.length_nil]; omega) | (simp; done) | assumption) [AV.cells?, AV.isCell, Tryz.f35, E_esc, k24, c24, a24, k3, c3, a3, k2, c2, a2, k9, c9, a9, fq0, fq1, fq2, fq3, fq4, bq3, bq2, bq9, hks, -AV.isCell, bne, h0, hp, h1, h2]
  · have e2 : a = 0 := by simpa using h1
    have e3 : lo = 0 := by simpa using h2
    have e4 : hi = 0 := by simpa using h
    exact ⟨by omega, fun _ => h0, by omega, by omega, by omega, fun _ _ => e2, by omega, by omega, fun _ => ⟨e3, e4⟩⟩

set_option maxHeartbeats 4000000 in
theorem fits_times (n : Nat) (hn : 40 ≤ n) (k : Int) (nm : List UInt8) (a lo hi : Int) (ks : AV) (hks : ks.isCell = true) (S : St)
    (hk : k = 13) : FitsOut n k nm a lo hi ks S := by
  unfold FitsOut
  have hp : ev Tryz.prog E (n + 3) 59 [.str nm] S = some (.ret (.bool (nameB nm)), S) := ev_Name n (by omega) nm S
  rw [ev_enter (n := n + 3) (show E.ok 35 = true from rfl) Tryz.func35 (fn := Tryz.f35) rfl (Nat.le_of_ble_eq_true rfl) (by decide +kernel)]
  cases h0 : nameB nm
  · refine ⟨false, ?_, iff_of_false (by simp) fun f => by have := f.name (by omega); rw [h0] at this; cases this⟩
    rw [h0] at hp; subst hk;
      simp (disch := first | (simp only [List.length_append, List.length_cons, List.length_nil]; omega) | (simp; done) | assumption) [AV.cells?, AV.isCell, Tryz.f35, E_esc, k24, c24, a24, k3, c3, a3, k2, c2, a2, k9, c9, a9, fq0, fq1, fq2, fq3, fq4, bq3, bq2, bq9, hks, -AV.isCell, bne, h0, hp]
  rw [h0] at hp
  cases h1 : (a == 0)
  · refine ⟨false, ?_, iff_of_false (by simp) fun f => by have := f.num (by omega) (by omega); subst this; simp at h1⟩
    subst hk;
      simp (disch := first | (simp only [List.length_append, List.length_cons, List.length_nil]; omega) | (simp; done) | assumption) [AV.cells?, AV.isCell, Tryz.f35, E_esc, k24, c24, a24, k3, c3, a3, k2, c2, a2, k9, c9, a9, fq0, fq1, fq2, fq3, fq4, bq3, bq2, bq9, hks, -AV.isCell, bne, h0, hp, h1]
  cases h2 : (lo == 0)
  · refine ⟨false, ?_, iff_of_false (by simp) fun f => by have := (f.times hk).1; subst this; simp at h2⟩
    subst hk;
      simp (disch := first | (simp only [List.length_append, List.length_cons, List.length_nil]; omega) | (simp; done) | assumption) [AV.cells?, AV.isCell, Tryz.f35, E_esc, k24, c24, a24, k3, c3, a3, k2, c2, a2, k9, c9, a9, fq0, fq1, fq2, fq3, fq4, bq3, bq2, bq9, hks, -AV.isCell, bne, h0, hp, h1, h2]
  refine ⟨decide (0 ≤ hi), ?_, fun h => ?_, fun f => by have := (f.times hk).2; simp [this]⟩
  · subst hk;
      simp (disch := first | (simp only [List.length_append, List.length_cons, List.length_nil]; omega) | (simp; done) | assumption) [AV.cells?, AV.isCell, Tryz.f35, E_esc, k24, c24, a24, k3, c3, a3, k2, c2, a2, k9, c9, a9, fq0, fq1, fq2, fq3, fq4, bq3, bq2, bq9, hks, -AV.isCell, bne, h0, hp, h1, h2]
  · have e2 : a = 0 := by simpa using h1
    have e3 : lo = 0 := by simpa using h2
    have e4 : 0 ≤ hi := by simpa using h
    exact ⟨by omega, fun _ => h0, by omega, by omega, by omega, fun _ _ => e2, by omega, fun _ => ⟨e3, e4⟩, by omega⟩

set_option maxHeartbeats 4000000 in
theorem fits_int (n : Nat) (hn : 40 ≤ n) (k : Int) (nm : List UInt8) (a lo hi : Int) (ks : AV) (hks : ks.isCell = true) (S : St)
    (hk : k = 1) : FitsOut n k nm a lo hi ks S := by
  unfold FitsOut
  subst hk
  rw [ev_enter (n := n + 3) (show E.ok 35 = true from rfl) Tryz.func35 (fn := Tryz.f35) rfl (Nat.le_of_ble_eq_true rfl) (by decide +kernel)]
  cases h0 : (nm == [])
  · refine ⟨false, ?_, iff_of_false (by simp) fun f => by have := f.none (by omega); subst this; simp at h0⟩
    simp (disch := first | (simp only [List.length_append, List.length_cons, List.length_nil]; omega) | (simp; done) | assumption) [AV.cells?, AV.isCell, Tryz.f35, E_esc, k24, c24, a24, k3, c3, a3, k2, c2, a2, k9, c9, a9, fq0, fq1, fq2, fq3, fq4, bq3, bq2, bq9, hks, -AV.isCell, bne, h0]
  by_cases h1 : a < 0
  · refine ⟨false, ?_, iff_of_false (by simp) fun f => by have := f.int (by omega); omega⟩
    simp (disch := first | (simp only [List.length_append, List.length_cons, List.length_nil]; omega) | (simp; done) | assumption) [AV.cells?, AV.isCell, Tryz.f35, E_esc, k24, c24, a24, k3, c3, a3, k2, c2, a2, k9, c9, a9, fq0, fq1, fq2, fq3, fq4, bq3, bq2, bq9, hks, -AV.isCell, bne, h0, h1]
  cases h2 : (lo == 0)
  · refine ⟨false, ?_, iff_of_false (by simp) fun f => by have := (f.zero (by omega)).1; subst this; simp at h2⟩
    simp (disch := first | (simp only [List.length_append, List.length_cons, List.length_nil]; omega) | (simp; done) | assumption) [AV.cells?, AV.isCell, Tryz.f35, E_esc, k24, c24, a24, k3, c3, a3, k2, c2, a2, k9, c9, a9, fq0, fq1, fq2, fq3, fq4, bq3, bq2, bq9, hks, -AV.isCell, bne, h0, h1, h2]
  refine ⟨hi == 0, ?_, fun h => ?_, fun f => by have := (f.zero (by omega)).2; simp [this]⟩
  · simp (disch := first | (simp only [List.length_append, List.length_cons, List.length_nil]; omega) | (simp; done) | assumption) [AV.cells?, AV.isCell, Tryz.f35, E_esc, k24, c24, a24, k3, c3, a3, k2, c2, a2, k9, c9, a9, fq0, fq1, fq2, fq3, fq4, bq3, bq2, bq9, hks, -AV.isCell, bne, h0, h1, h2]
  · have e1 : nm = [] := by simpa using h0
    have e3 : lo = 0 := by simpa using h2
    have e4 : hi = 0 := by simpa using h
    exact ⟨by omega, by omega, fun _ => e1, fun _ => by omega, by omega, by omega, by omega, by omega, fun _ => ⟨e3, e4⟩⟩

set_option maxHeartbeats 4000000 in
theorem fits_bool (n : Nat) (hn : 40 ≤ n) (k : Int) (nm : List UInt8) (a lo hi : Int) (ks : AV) (hks : ks.isCell = true) (S : St)
    (hk : k = 2) : FitsOut n k nm a lo hi ks S := by
  unfold FitsOut
  subst hk
  rw [ev_enter (n := n + 3) (show E.ok 35 = true from rfl) Tryz.func35 (fn := Tryz.f35) rfl (Nat.le_of_ble_eq_true rfl) (by decide +kernel)]
  cases h0 : (nm == [])
  · refine ⟨false, ?_, iff_of_false (by simp) fun f => by have := f.none (by omega); subst this; simp at h0⟩
    simp (disch := first | (simp only [List.length_append, List.length_cons, List.length_nil]; omega) | (simp; done) | assumption) [AV.cells?, AV.isCell, Tryz.f35, E_esc, k24, c24, a24, k3, c3, a3, k2, c2, a2, k9, c9, a9, fq0, fq1, fq2, fq3, fq4, bq3, bq2, bq9, hks, -AV.isCell, bne, h0]
  by_cases hA : a = 0 ∨ a = 1
  · cases h2 : (lo == 0)
    · refine ⟨false, ?_, iff_of_false (by simp) fun f => by have := (f.zero (by omega)).1; subst this; simp at h2⟩
      rcases hA with rfl | rfl <;> simp (disch := first | (simp only [List.length_append, List.length_cons, List.length_nil]; omega) | (simp; done) | assumption) [AV.cells?, AV.isCell, Tryz.f35, E_esc, k24, c24, a24, k3, c3, a3, k2, c2, a2, k9, c9, a9, fq0, fq1, fq2, fq3, fq4, bq3, bq2, bq9, hks, -AV.isCell, bne, h0, h2]
    refine ⟨hi == 0, ?_, fun h => ?_, fun f => by have := (f.zero (by omega)).2; simp [this]⟩
    · rcases hA with rfl | rfl <;> simp (disch := first | (simp only [List.length_append, List.length_cons, List.length_nil]; omega) | (simp; done) | assumption) [AV.cells?, AV.isCell, Tryz.f35, E_esc, k24, c24, a24, k3, c3, a3, k2, c2, a2, k9, c9, a9, fq0, fq1, fq2, fq3, fq4, bq3, bq2, bq9, hks, -AV.isCell, bne, h0, h2]
    · have e1 : nm = [] := by simpa using h0
      have e3 : lo = 0 := by simpa using h2
      have e4 : hi = 0 := by simpa using h
      exact ⟨by omega, by omega, fun _ => e1, by omega, fun _ => hA, by omega, by omega, by omega, fun _ => ⟨e3, e4⟩⟩
  · refine ⟨false, ?_, iff_of_false (by simp) fun f => by have := f.bool (by omega); omega⟩
    have g0 : (a == 0) = false := by simp; omega
    have g1 : (a == 1) = false := by simp; omega
    simp (disch := first | (simp only [List.length_append, List.length_cons, List.length_nil]; omega) | (simp; done) | assumption) [AV.cells?, AV.isCell, Tryz.f35, E_esc, k24, c24, a24, k3, c3, a3, k2, c2, a2, k9, c9, a9, fq0, fq1, fq2, fq3, fq4, bq3, bq2, bq9, hks, -AV.isCell, bne, h0, g0, g1]

set_option maxHeartbeats 4000000 in
theorem fits_span (n : Nat) (hn : 40 ≤ n) (k : Int) (nm : List UInt8) (a lo hi : Int) (ks : AV) (hks : ks.isCell = true) (S : St)
    (hk : k = 22 ∨ k = 23 ∨ k = 24) : FitsOut n k nm a lo hi ks S := by
  unfold FitsOut
  rw [ev_enter (n := n + 3) (show E.ok 35 = true from rfl) Tryz.func35 (fn := Tryz.f35) rfl (Nat.le_of_ble_eq_true rfl) (by decide +kernel)]
  cases h0 : (nm == [])
  · refine ⟨false, ?_, iff_of_false (by simp) fun f => by have := f.none (by omega); subst this; simp at h0⟩
    rcases hk with rfl | rfl | rfl <;> simp (disch := first | (simp only [List.length_append, List.length_cons, List.length_nil]; omega) | (simp; done) | assumption) [AV.cells?, AV.isCell, Tryz.f35, E_esc, k24, c24, a24, k3, c3, a3, k2, c2, a2, k9, c9, a9, fq0, fq1, fq2, fq3, fq4, bq3, bq2, bq9, hks, -AV.isCell, bne, h0]
  cases h1 : (a == 0)
  · refine ⟨false, ?_, iff_of_false (by simp) fun f => by have := f.num (by omega) (by omega); subst this; simp at h1⟩
    rcases hk with rfl | rfl | rfl <;> simp (disch := first | (simp only [List.length_append, List.length_cons, List.length_nil]; omega) | (simp; done) | assumption) [AV.cells?, AV.isCell, Tryz.f35, E_esc, k24, c24, a24, k3, c3, a3, k2, c2, a2, k9, c9, a9, fq0, fq1, fq2, fq3, fq4, bq3, bq2, bq9, hks, -AV.isCell, bne, h0, h1]
  have e1 : nm = [] := by simpa using h0
  have e2 : a = 0 := by simpa using h1
  by_cases h2 : 0 ≤ lo
  · cases h3 : (hi == -1)
    · refine ⟨decide (lo ≤ hi), ?_, fun h => ?_, fun f => by have := (f.span hk).2; simp at h3; simp; omega⟩
      · rcases hk with rfl | rfl | rfl <;> simp (disch := first | (simp only [List.length_append, List.length_cons, List.length_nil]; omega) | (simp; done) | assumption) [AV.cells?, AV.isCell, Tryz.f35, E_esc, k24, c24, a24, k3, c3, a3, k2, c2, a2, k9, c9, a9, fq0, fq1, fq2, fq3, fq4, bq3, bq2, bq9, hks, -AV.isCell, bne, h0, h1, h2, h3]
      · have e4 : lo ≤ hi := by simpa using h
        exact ⟨by omega, by omega, fun _ => e1, by omega, by omega, fun _ _ => e2, fun _ => ⟨h2, .inr e4⟩, by omega, by omega⟩
    · refine ⟨true, ?_, fun h => ?_, fun _ => rfl⟩
      · rcases hk with rfl | rfl | rfl <;> simp (disch := first | (simp only [List.length_append, List.length_cons, List.length_nil]; omega) | (simp; done) | assumption) [AV.cells?, AV.isCell, Tryz.f35, E_esc, k24, c24, a24, k3, c3, a3, k2, c2, a2, k9, c9, a9, fq0, fq1, fq2, fq3, fq4, bq3, bq2, bq9, hks, -AV.isCell, bne, h0, h1, h2, h3]
      · have e4 : hi = -1 := by simpa using h3
        exact ⟨by omega, by omega, fun _ => e1, by omega, by omega, fun _ _ => e2, fun _ => ⟨h2, .inl e4⟩, by omega, by omega⟩
  · refine ⟨false, ?_, iff_of_false (by simp) fun f => by have := (f.span hk).1; omega⟩
    rcases hk with rfl | rfl | rfl <;> simp (disch := first | (simp only [List.length_append, List.length_cons, List.length_nil]; omega) | (simp; done) | assumption) [AV.cells?, AV.isCell, Tryz.f35, E_esc, k24, c24, a24, k3, c3, a3, k2, c2, a2, k9, c9, a9, fq0, fq1, fq2, fq3, fq4, bq3, bq2, bq9, hks, -AV.isCell, bne, h0, h1, h2]

theorem ev_fits (n : Nat) (hn : 44 ≤ n) (k : Int) (nm : List UInt8) (a lo hi : Int) (ks : AV) (hks : ks.isCell = true) (hk : kinds k) (S : St) :
    ∃ b, ev Tryz.prog E n 35 [.agg [.int .i64 k, .str nm, .int .i64 a, .int .i64 lo, .int .i64 hi, ks]] S = some (.ret (.bool b), S) ∧ (b = true ↔ Fits k nm a lo hi) := by
  obtain ⟨n, rfl⟩ : ∃ m, n = m + 4 := ⟨n - 4, by omega⟩
  have hk' := (kinds_iff k).1 hk
  by_cases c1 : k = 1
  · exact fits_int n (by omega) k nm a lo hi ks hks S c1
  by_cases c2 : k = 2
  · exact fits_bool n (by omega) k nm a lo hi ks hks S c2
  by_cases c3 : k = 3
  · exact fits_text n (by omega) k nm a lo hi ks hks S c3
  by_cases c4 : k = 5 ∨ k = 6 ∨ k = 21
  · exact fits_named n (by omega) k nm a lo hi ks hks S c4
  by_cases c5 : k = 13
  · exact fits_times n (by omega) k nm a lo hi ks hks S c5
  by_cases c6 : k = 22 ∨ k = 23 ∨ k = 24
  · exact fits_span n (by omega) k nm a lo hi ks hks S c6
  exact fits_plain n (by omega) k nm a lo hi ks hks S (by omega)
end Go.Proofs.YtemggoaefohliaaGreatDoor.CK
/- The reference's Check, evaluated (made by genck.py). No condition. -/
namespace Go.Proofs.YtemggoaefohliaaGreatDoor.CK
set_option linter.unusedVariables false
set_option linter.unusedSimpArgs false
open Go AE EX PT
set_option maxRecDepth 100000


noncomputable def sLoop : Code := cutC (bodyOf Tryz.f34) [1, 1, 0, 1, 0, 0]
noncomputable def sl0 : Code := cutC (bodyOf Tryz.f34) [0]
noncomputable def sl1 : Code := cutC (bodyOf Tryz.f34) [1, 0]
noncomputable def sl2 : Code := cutC (bodyOf Tryz.f34) [1, 1, 0, 0]
noncomputable def sl3 : Code := cutC (bodyOf Tryz.f34) [1, 1, 1]
theorem f35b : Tryz.f34.body = some (.seq sl0 (.seq sl1 (.seq (.seq sl2 (.block 0 (.loop sLoop))) sl3))) := rfl

set_option maxHeartbeats 4000000 in
theorem set_round (n : Nat) (hn : 40 ≤ n) (c0 c1' c2' c3' c4' : AV) (tk : Bool) (kids : List X) (S0 : St) (hs : kids.length ≤ 8) (m : Nat) (fs : FS) (h : SI n [c0, c1', c2', c3', c4', .slice (embL kids) (tokOf tk)] kids S0 m fs) :
    ∃ o fs', evCode ⟨Tryz.prog, E.esc 34, n⟩ (ev Tryz.prog E n) (E.ps 34) n sLoop fs = some (o, fs') ∧
      ((o = .norm ∧ ∃ m', m' < m ∧ SI n [c0, c1', c2', c3', c4', .slice (embL kids) (tokOf tk)] kids S0 m' fs') ∨ (o ≠ .norm ∧ SQ kids S0 (o, fs'))) := by
  obtain ⟨t, b, v, S⟩ := fs
  obtain ⟨i, hi, h1, h2, h3, h4, h5⟩ := h
  simp only at h1 h2 h3 h4
  subst h4
  have hlen : (embL kids).length = kids.length := by rw [embL_map]; simp
  cases m with
  | zero =>
    have hi : i = kids.length := by omega
    subst hi
    refine ⟨.exit 0, _, by
      simp (disch := first | (simp only [List.length_append, List.length_cons, List.length_nil]; omega) | (simp; done) | assumption) [AV.cells?, AV.isCell, sLoop, cutC, bodyOf, Tryz.f34, h1, h2, h3, fq5, k22, c22, a22, sq22, bq3, hlen]
      rfl, .inr ⟨by simp, rfl, .inl ⟨rfl, h5⟩⟩⟩
  | succ m =>
    have hlt : i < kids.length := by omega
    have hltz : (i : Int) < kids.length := by omega
    have hxe : kids[i]? = some kids[i] := List.getElem?_eq_getElem hlt
    have htake : kids.take (i + 1) = kids.take i ++ [kids[i]] := by rw [List.take_add_one, hxe]; rfl
    have hemb : (embL kids)[i]? = some kids[i].emb := by rw [embL_map, List.getElem?_map, hxe]; rfl
    have hw : IntKind.i64.wrap ((i : Int) + 1) = (i : Int) + 1 := wrap64 _ (by omega)
    have hp := ev_Plain (n - 1) (by omega)
    rw [show n - 1 + 1 = n by omega] at hp
    have hps : E.ps 34 9 = [(4, 6), (4, 11)] := rfl
    obtain ⟨z, hz⟩ := ii24
    generalize kids[i] = x at *
    obtain ⟨k, nm, a, lo, hi', tk', ks⟩ := x
    have hp := hp nm S
    have hks : ((embL ks).length : Int) = ks.length := by rw [embL_map]; simp
    have hks' : (embL ks).length = ks.length := by rw [embL_map]; simp
    simp only [X.emb] at hemb
    cases g0 : (k == 3)
    · refine ⟨.ret, _, by
        simp (disch := first | (simp only [List.length_append, List.length_cons, List.length_nil]; omega) | (simp; done) | assumption) [AV.cells?, AV.isCell, sLoop, cutC, bodyOf, Tryz.f34, E_esc, h1, h2, h3, fq0, fq1, fq2, fq3, fq4, fq5, k22, c22, a22, k24, c24, a24, k3, c3, a3, k2, c2, a2, k9, c9, a9, z24, i24, hz, sq22, bq3, bq2, hlen, hlt, hltz, hemb, bne, g0]
        rfl, .inr ⟨by simp, rfl, .inr ⟨rfl, by simp [upd], i, hlt, fun ⟨_, _, he, hp', _⟩ => by rw [hxe] at he; cases he; simp at g0⟩⟩⟩
    cases g1 : decide ((0 : Int) < ks.length)
    rotate_left 1
    · have g1' : 0 < ks.length := by simpa using g1
      refine ⟨.ret, _, by
        simp (disch := first | (simp only [List.length_append, List.length_cons, List.length_nil]; omega) | (simp; done) | assumption) [AV.cells?, AV.isCell, sLoop, cutC, bodyOf, Tryz.f34, E_esc, h1, h2, h3, fq0, fq1, fq2, fq3, fq4, fq5, k22, c22, a22, k24, c24, a24, k3, c3, a3, k2, c2, a2, k9, c9, a9, z24, i24, hz, sq22, bq3, bq2, hlen, hlt, hltz, hemb, bne, g0, hks, hks', g1']
        rfl, .inr ⟨by simp, rfl, .inr ⟨rfl, by simp [upd], i, hlt, fun ⟨_, _, he, hp', _⟩ => by rw [hxe] at he; cases he; simp at g1'⟩⟩⟩
    have g1' : ks = [] := by
      cases ks with
      | nil => rfl
      | cons y l => simp at g1
    subst g1'
    simp only [embL] at hemb
    cases g2 : (a == 0)
    · refine ⟨.ret, _, by
        simp (disch := first | (simp only [List.length_append, List.length_cons, List.length_nil]; omega) | (simp; done) | assumption) [AV.cells?, AV.isCell, sLoop, cutC, bodyOf, Tryz.f34, E_esc, h1, h2, h3, fq0, fq1, fq2, fq3, fq4, fq5, k22, c22, a22, k24, c24, a24, k3, c3, a3, k2, c2, a2, k9, c9, a9, z24, i24, hz, sq22, bq3, bq2, hlen, hlt, hltz, hemb, bne, g0, g2]
        rfl, .inr ⟨by simp, rfl, .inr ⟨rfl, by simp [upd], i, hlt, fun ⟨_, _, he, hp', _⟩ => by rw [hxe] at he; cases he; simp at g2⟩⟩⟩
    cases g3 : (lo == 0)
    · refine ⟨.ret, _, by
        simp (disch := first | (simp only [List.length_append, List.length_cons, List.length_nil]; omega) | (simp; done) | assumption) [AV.cells?, AV.isCell, sLoop, cutC, bodyOf, Tryz.f34, E_esc, h1, h2, h3, fq0, fq1, fq2, fq3, fq4, fq5, k22, c22, a22, k24, c24, a24, k3, c3, a3, k2, c2, a2, k9, c9, a9, z24, i24, hz, sq22, bq3, bq2, hlen, hlt, hltz, hemb, bne, g0, g2, g3]
        rfl, .inr ⟨by simp, rfl, .inr ⟨rfl, by simp [upd], i, hlt, fun ⟨_, _, he, hp', _⟩ => by rw [hxe] at he; cases he; simp at g3⟩⟩⟩
    cases g4 : (hi' == 0)
    · refine ⟨.ret, _, by
        simp (disch := first | (simp only [List.length_append, List.length_cons, List.length_nil]; omega) | (simp; done) | assumption) [AV.cells?, AV.isCell, sLoop, cutC, bodyOf, Tryz.f34, E_esc, h1, h2, h3, fq0, fq1, fq2, fq3, fq4, fq5, k22, c22, a22, k24, c24, a24, k3, c3, a3, k2, c2, a2, k9, c9, a9, z24, i24, hz, sq22, bq3, bq2, hlen, hlt, hltz, hemb, bne, g0, g2, g3, g4]
        rfl, .inr ⟨by simp, rfl, .inr ⟨rfl, by simp [upd], i, hlt, fun ⟨_, _, he, hp', _⟩ => by rw [hxe] at he; cases he; simp at g4⟩⟩⟩
    cases g5 : plainB nm
    · rw [g5] at hp
      refine ⟨.ret, _, by
        simp (disch := first | (simp only [List.length_append, List.length_cons, List.length_nil]; omega) | (simp; done) | assumption) [AV.cells?, AV.isCell, sLoop, cutC, bodyOf, Tryz.f34, E_esc, h1, h2, h3, fq0, fq1, fq2, fq3, fq4, fq5, k22, c22, a22, k24, c24, a24, k3, c3, a3, k2, c2, a2, k9, c9, a9, z24, i24, hz, sq22, bq3, bq2, hlen, hlt, hltz, hemb, bne, g0, g2, g3, g4, hp]
        rfl, .inr ⟨by simp, rfl, .inr ⟨rfl, by simp [upd], i, hlt, fun ⟨_, _, he, hp', _⟩ => by rw [hxe] at he; cases he; rw [g5] at hp'; cases hp'⟩⟩⟩
    rw [g5] at hp
    have e0 : k = 3 := by simpa using g0
    have e2 : a = 0 := by simpa using g2
    have e3 : lo = 0 := by simpa using g3
    have e4 : hi' = 0 := by simpa using g4
    subst e0 e2 e3 e4
    have good : (0 < i → ∀ y, kids[i - 1]? = some y → (Op.bytesLess nm y.nm || nm == y.nm) = false) → ∀ j, j < i + 1 → kidOK kids j := fun hr j hj => by
      by_cases hji : j = i
      · subst hji; exact ⟨nm, tk', hxe, g5, hr⟩
      · exact h5 j (by omega)
    by_cases h0 : i = 0
    · subst h0
      refine ⟨.norm, _, by
        simp (disch := first | (simp only [List.length_append, List.length_cons, List.length_nil]; omega) | (simp; done) | assumption) [AV.cells?, AV.isCell, sLoop, cutC, bodyOf, Tryz.f34, E_esc, h1, h2, h3, fq0, fq1, fq2, fq3, fq4, fq5, k22, c22, a22, k24, c24, a24, k3, c3, a3, k2, c2, a2, k9, c9, a9, z24, i24, hz, sq22, bq3, bq2, bq9, hlen, hlt, hltz, hemb, bne, hp, hps]
        rfl, .inl ⟨rfl, m, by omega, 1, by omega, by simp [upd, h1], by simp [upd, h2], by simp [upd, wrap64 1 (by omega)], rfl, good (fun h => absurd h (Nat.lt_irrefl 0))⟩⟩
    · have hpos : (0 : Int) < i := by omega
      have hpos' : 0 < i := by omega
      have hw2 : IntKind.i64.wrap ((i : Int) - 1) = ((i - 1 : Nat) : Int) := by rw [wrap64 _ (by omega)]; omega
      have hye : kids[i - 1]? = some kids[i - 1] := List.getElem?_eq_getElem (by omega)
      have hemb2 : (embL kids)[i - 1]? = some kids[i - 1].emb := by rw [embL_map, List.getElem?_map, hye]; rfl
      generalize kids[i - 1] = y at *
      obtain ⟨kk, nm2, aa, lo2, hi2, tk2, ks2⟩ := y
      simp only [X.emb] at hemb2
      cases g6 : (Op.bytesLess nm nm2 || nm == nm2)
      · refine ⟨.norm, _, by
          simp (disch := first | (simp only [List.length_append, List.length_cons, List.length_nil]; omega) | (simp; done) | assumption) [AV.cells?, AV.isCell, sLoop, cutC, bodyOf, Tryz.f34, E_esc, h1, h2, h3, fq0, fq1, fq2, fq3, fq4, fq5, k22, c22, a22, k24, c24, a24, k3, c3, a3, k2, c2, a2, k9, c9, a9, z24, i24, hz, sq22, bq3, bq2, bq9, hlen, hlt, hltz, hemb, bne, hp, hps, hpos, hpos', hw2, hemb2, g6, -Bool.or_eq_true, -Bool.or_eq_false_iff]
          rfl, .inl ⟨rfl, m, by omega, i + 1, by omega, by simp [upd, h1], by simp [upd, h2], by simp [upd, hw], rfl, good fun _ y hy => by rw [hye] at hy; cases hy; exact g6⟩⟩
      · refine ⟨.ret, _, by
          simp (disch := first | (simp only [List.length_append, List.length_cons, List.length_nil]; omega) | (simp; done) | assumption) [AV.cells?, AV.isCell, sLoop, cutC, bodyOf, Tryz.f34, E_esc, h1, h2, h3, fq0, fq1, fq2, fq3, fq4, fq5, k22, c22, a22, k24, c24, a24, k3, c3, a3, k2, c2, a2, k9, c9, a9, z24, i24, hz, sq22, bq3, bq2, bq9, hlen, hlt, hltz, hemb, bne, hp, hps, hpos, hpos', hw2, hemb2, g6, -Bool.or_eq_true, -Bool.or_eq_false_iff]
          rfl, .inr ⟨by simp, rfl, .inr ⟨rfl, by simp [upd], i, hlt, fun ⟨_, _, he, _, hr⟩ => by rw [hxe] at he; cases he; have := hr hpos' _ hye; simp only [X.nm] at this; rw [g6] at this; cases this⟩⟩⟩
end Go.Proofs.YtemggoaefohliaaGreatDoor.CK
/- The reference's Check, evaluated (made by genck.py). No condition. -/
namespace Go.Proofs.YtemggoaefohliaaGreatDoor.CK
set_option linter.unusedVariables false
set_option linter.unusedSimpArgs false
open Go AE EX PT
set_option maxRecDepth 100000


theorem ev_set (n : Nat) (hn : 40 ≤ n) (k : Int) (nm : List UInt8) (a lo hi : Int) (tk : Bool) (kids : List X) (S : St) :
    ∃ b, ev Tryz.prog E (n + 1) 34 [.agg [.int .i64 k, .str nm, .int .i64 a, .int .i64 lo, .int .i64 hi, .slice (embL kids) (tokOf tk)]] S = some (.ret (.bool b), S) ∧ (b = true ↔ SetOK kids) := by
  rw [ev_enter (n := n) (show E.ok 34 = true from rfl) Tryz.func34 f35b (Nat.le_of_ble_eq_true rfl) (by decide +kernel)]
  have hlen : (embL kids).length = kids.length := by rw [embL_map]; simp
  by_cases hs : kids.length ≤ 8
  · have h8 : ¬ (8 : Int) < kids.length := by omega
    have h8' : ¬ 8 < kids.length := by omega
    have key : ∀ fs, SI n [.int .i64 k, .str nm, .int .i64 a, .int .i64 lo, .int .i64 hi, .slice (embL kids) (tokOf tk)] kids S kids.length fs → ∃ r, iter n (evCode ⟨Tryz.prog, E.esc 34, n⟩ (ev Tryz.prog E n) (E.ps 34) n sLoop) fs = some r ∧ SQ kids S r := fun fs h =>
      iter_meas (fun m fs h => set_round n hn _ _ _ _ _ tk kids S hs m fs h) kids.length n fs (by omega) h
    obtain ⟨F, hF⟩ := skolemR key
    have hF1 := fun x h => (hF x h).1
    obtain ⟨⟨o, t, b, v, S'⟩, hr, hS, hq⟩ := key ⟨upd 3 (.int .i64 0) (upd 8 (.bool false) (upd 7 (.int .i64 kids.length) (upd 6 (.slice (embL kids) (tokOf tk)) (upd 5 (.loc n 1 1 5) (upd 2 (.bool false) (upd 1 (.loc n 1 1 0) (argsA [.agg [.int .i64 k, .str nm, .int .i64 a, .int .i64 lo, .int .i64 hi, .slice (embL kids) (tokOf tk)]]))))))),
      upd 1 (1, [.int .i64 k, .str nm, .int .i64 a, .int .i64 lo, .int .i64 hi, .slice (embL kids) (tokOf tk)]) (fun _ => (0, [])), 7, S⟩
      ⟨0, by omega, by simp [upd], by simp [upd], by simp [upd], rfl, by simp⟩
    simp only at hS hq
    subst hS
    rcases hq with ⟨rfl, ha⟩ | ⟨rfl, h2, j, hj, hno⟩
    · refine ⟨true, ?_, fun _ => ⟨hs, ha⟩, fun _ => rfl⟩
      simp (disch := first | (simp only [List.length_append, List.length_cons, List.length_nil]; omega) | (simp; done) | assumption) [AV.cells?, AV.isCell, sl0, sl1, sl2, sl3, cutC, bodyOf, Tryz.f34, E_esc, fq5, k22, c22, a22, sq22, bq3, hlen, h8, h8', hr]
    · refine ⟨false, ?_, iff_of_false (by simp) fun f => hno (f.2 j hj)⟩
      simp (disch := first | (simp only [List.length_append, List.length_cons, List.length_nil]; omega) | (simp; done) | assumption) [AV.cells?, AV.isCell, sl0, sl1, sl2, sl3, cutC, bodyOf, Tryz.f34, E_esc, fq5, k22, c22, a22, sq22, bq3, hlen, h8, h8', hr, h2]
  · have h8 : (8 : Int) < kids.length := by omega
    have h8' : 8 < kids.length := by omega
    refine ⟨false, ?_, iff_of_false (by simp) fun f => hs f.1⟩
    simp (disch := first | (simp only [List.length_append, List.length_cons, List.length_nil]; omega) | (simp; done) | assumption) [AV.cells?, AV.isCell, sl0, sl1, sl2, sl3, cutC, bodyOf, Tryz.f34, E_esc, fq5, k22, c22, a22, sq22, bq3, hlen, h8, h8']

/-! ### how deep -/
noncomputable def dpLoop : Code := cutC (bodyOf Tryz.f31) [1, 1, 1, 0, 1, 0, 0]
noncomputable def dp0 : Code := cutC (bodyOf Tryz.f31) [0]
noncomputable def dp1 : Code := cutC (bodyOf Tryz.f31) [1, 0]
noncomputable def dp2 : Code := cutC (bodyOf Tryz.f31) [1, 1, 0]
noncomputable def dp3 : Code := cutC (bodyOf Tryz.f31) [1, 1, 1, 0, 0]
noncomputable def dp4 : Code := cutC (bodyOf Tryz.f31) [1, 1, 1, 1]
theorem f32b : Tryz.f31.body = some (.seq dp0 (.seq dp1 (.seq dp2 (.seq (.seq dp3 (.block 0 (.loop dpLoop))) dp4)))) := rfl

theorem dep_round (n : Nat) (c0 c1' c2' c3' c4' : AV) (tk : Bool) (kids : List X) (S0 : St) (hs : kids.length ≤ 1099511627776)
    (hrec : ∀ x ∈ kids, ∀ S, ev Tryz.prog E n 31 [x.emb] S = some (.ret (.int .i64 x.dep), S)) (i : Nat) (hi : i < kids.length) (fs : FS) (h : DPI n [c0, c1', c2', c3', c4', .slice (embL kids) (tokOf tk)] kids S0 i fs) :
    ∃ fs', evCode ⟨Tryz.prog, E.esc 31, n⟩ (ev Tryz.prog E n) (E.ps 31) n dpLoop fs = some (.norm, fs') ∧ DPI n [c0, c1', c2', c3', c4', .slice (embL kids) (tokOf tk)] kids S0 (i + 1) fs' := by
  obtain ⟨t, b, v, S⟩ := fs
  obtain ⟨h1, h2, h3, h4, h5⟩ := h
  simp only at h1 h2 h3 h4 h5
  subst h5
  have hlen : (embL kids).length = kids.length := by rw [embL_map]; simp
  have hltz : (i : Int) < kids.length := by omega
  have hxe : kids[i]? = some kids[i] := List.getElem?_eq_getElem hi
  have hr := hrec kids[i] (List.getElem_mem hi) S
  have hsplit : kids.take (i + 1) = kids.take i ++ [kids[i]] := by rw [List.take_add_one, hxe]; rfl
  have hd : depF (kids.take (i + 1)) = if depF (kids.take i) < kids[i].dep then kids[i].dep else depF (kids.take i) := by rw [hsplit, depF_snoc]
  have hemb : (embL kids)[i]? = some kids[i].emb := by rw [embL_map, List.getElem?_map, hxe]; rfl
  have ha1 := cells_all kids[i]
  have hc1 := (cells_ok kids[i]).2
  have ht1 : List.take 6 kids[i].cells = kids[i].cells := List.take_of_length_le (by omega)
  rw [emb_cells] at hemb hr
  generalize kids[i].dep = d at *
  generalize kids[i].cells = C1 at *
  generalize depF (kids.take i) = e at *
  have hw : IntKind.i64.wrap ((i : Int) + 1) = (i : Int) + 1 := wrap64 _ (by omega)
  obtain ⟨z, hz⟩ := ii24
  by_cases hlt : e < d
  · have hltz' : (e : Int) < d := by omega
    refine ⟨_, by
      simp (disch := first | (simp only [List.length_append, List.length_cons, List.length_nil]; omega) | (simp; done) | assumption) [AV.cells?, AV.isCell, dpLoop, cutC, bodyOf, Tryz.f31, E_esc, h1, h2, h3, h4, fq5, k22, c22, a22, k24, c24, a24, i24, hz, sq22, bq3, hlen, hi, hltz, hemb, hr, ha1, hc1, ht1, hlt, hltz']
      rfl, by simp [upd, h1], by simp [upd, h2], by simp [upd, hw], by rw [hd, if_pos hlt]; simp [upd], rfl⟩
  · have hltz' : ¬ (e : Int) < d := by omega
    refine ⟨_, by
      simp (disch := first | (simp only [List.length_append, List.length_cons, List.length_nil]; omega) | (simp; done) | assumption) [AV.cells?, AV.isCell, dpLoop, cutC, bodyOf, Tryz.f31, E_esc, h1, h2, h3, h4, fq5, k22, c22, a22, k24, c24, a24, i24, hz, sq22, bq3, hlen, hi, hltz, hemb, hr, ha1, hc1, ht1, hlt, hltz']
      rfl, by simp [upd, h1], by simp [upd, h2], by simp [upd, hw], by rw [hd, if_neg hlt]; simp [upd, h4], rfl⟩

theorem ev_Depth : ∀ (m : Nat) (x : X), x.size ≤ m → m ≤ 1048576 → ∀ n, m + 2 ≤ n → ∀ S, ev Tryz.prog E n 31 [x.emb] S = some (.ret (.int .i64 x.dep), S)
  | 0, x, hm, _, _, _, _ => absurd hm (by have := size_pos x; omega)
  | m + 1, x, hm, hmm, n, hn, S => by
    obtain ⟨n, rfl⟩ : ∃ k, n = k + 1 := ⟨n - 1, by omega⟩
    have hds := dep_size x
    obtain ⟨k, nm, a, lo, hi, tk, kids⟩ := x
    simp only [X.size] at hm hds
    have hl := sizeL_length kids
    have hlen : (embL kids).length = kids.length := by rw [embL_map]; simp
    simp only [X.emb]
    rw [ev_enter (n := n) (show E.ok 31 = true from rfl) Tryz.func31 f32b (Nat.le_of_ble_eq_true rfl) (by decide +kernel)]
    cases h4 : k == 4
    · have key : ∀ fs, DPI n [.int .i64 k, .str nm, .int .i64 a, .int .i64 lo, .int .i64 hi, .slice (embL kids) (tokOf tk)] kids S 0 fs → ∃ fs', iter n (evCode ⟨Tryz.prog, E.esc 31, n⟩ (ev Tryz.prog E n) (E.ps 31) n dpLoop) fs = some (.exit 0, fs') ∧
          DPI n [.int .i64 k, .str nm, .int .i64 a, .int .i64 lo, .int .i64 hi, .slice (embL kids) (tokOf tk)] kids S kids.length fs' := fun fs h => by
        obtain ⟨⟨o, fs'⟩, r1, r2, r3⟩ := iter_range (Q := fun r => r.1 = .exit 0 ∧ DPI n [.int .i64 k, .str nm, .int .i64 a, .int .i64 lo, .int .i64 hi, .slice (embL kids) (tokOf tk)] kids S kids.length r.2) (len := kids.length)
          (fun i hi' fs h => dep_round n _ _ _ _ _ tk kids S (by omega) (fun x hx S => ev_Depth m x (by have := sizeL_mem hx; omega) (by omega) n (by omega) S) i hi' fs h)
          (fun fs h => by
            obtain ⟨t, b, v, S'⟩ := fs
            obtain ⟨h1, h2, h3, h4, h5⟩ := h
            simp only at h1 h2 h3 h4 h5
            refine ⟨.exit 0, _, by
              simp (disch := first | (simp only [List.length_append, List.length_cons, List.length_nil]; omega) | (simp; done) | assumption) [AV.cells?, AV.isCell, dpLoop, cutC, bodyOf, Tryz.f31, h1, h2, h3, fq5, k22, c22, a22, bq3, sq22, hlen]
              rfl, by simp, rfl, by simp [upd, h1], by simp [upd, h2], by simp [upd, h3], by simp [upd, h4], h5⟩) kids.length 0 n fs (by omega) (by omega) h
        simp only at r2
        subst r2
        exact ⟨fs', r1, r3⟩
      obtain ⟨⟨t, b, v, S'⟩, hr, g1, g2, g3, g4, g5⟩ := key ⟨upd 4 (.int .i64 0) (upd 3 (.int .i64 0) (upd 8 (.bool false) (upd 7 (.int .i64 k) (upd 6 (.loc n 1 1 0) (upd 2 (.int .i64 0) (upd 1 (.loc n 1 1 0) (argsA [.agg [.int .i64 k, .str nm, .int .i64 a, .int .i64 lo, .int .i64 hi, .slice (embL kids) (tokOf tk)]]))))))),
        upd 1 (1, [.int .i64 k, .str nm, .int .i64 a, .int .i64 lo, .int .i64 hi, .slice (embL kids) (tokOf tk)]) (fun _ => (0, [])), 7, S⟩
        ⟨by simp [upd], by simp [upd], by simp [upd], by simp [upd, depF], rfl⟩
      simp only at g1 g2 g3 g4 g5
      subst g5
      rw [List.take_length, depF_eq] at g4
      have w1 : IntKind.i64.wrap ((depL kids : Int) + 1) = (depL kids : Int) + 1 := wrap64 _ (by have := depL_size kids; omega)
      simp (disch := first | (simp only [List.length_append, List.length_cons, List.length_nil]; omega) | (simp; done) | assumption) [AV.cells?, AV.isCell, dp0, dp1, dp2, dp3, dp4, cutC, bodyOf, Tryz.f31, E_esc, k3, c3, a3, fq0, bq3, h4, hr, g4, w1, X.dep]
    · simp (disch := first | (simp only [List.length_append, List.length_cons, List.length_nil]; omega) | (simp; done) | assumption) [AV.cells?, AV.isCell, dp0, dp1, dp2, dp3, dp4, cutC, bodyOf, Tryz.f31, E_esc, k3, c3, a3, fq0, bq3, h4, X.dep]
end Go.Proofs.YtemggoaefohliaaGreatDoor.CK
/- The reference's Check, evaluated (made by genck.py). No condition. -/
namespace Go.Proofs.YtemggoaefohliaaGreatDoor.CK
set_option linter.unusedVariables false
set_option linter.unusedSimpArgs false
open Go AE EX PT
set_option maxRecDepth 100000


noncomputable def gLoop : Code := cutC (bodyOf Tryz.f32) [1, 1, 1, 0, 1, 0, 0]
noncomputable def gl0 : Code := cutC (bodyOf Tryz.f32) [0]
noncomputable def gl1 : Code := cutC (bodyOf Tryz.f32) [1, 0]
noncomputable def gl2 : Code := cutC (bodyOf Tryz.f32) [1, 1, 0]
noncomputable def gl3 : Code := cutC (bodyOf Tryz.f32) [1, 1, 1, 0, 0]
noncomputable def gl4 : Code := cutC (bodyOf Tryz.f32) [1, 1, 1, 1]
theorem f33b : Tryz.f32.body = some (.seq gl0 (.seq gl1 (.seq gl2 (.seq (.seq gl3 (.block 0 (.loop gLoop))) gl4)))) := rfl

theorem all_round2 (n : Nat) (c0 c1' c2' c3' c4' : AV) (tk : Bool) (e : X) (kids : List X) (S0 : St) (hs : sizeL kids ≤ 1048000)
    (hrec : ∀ x ∈ kids, ∀ S, ev Tryz.prog E n 32 [x.emb] S = some (.ret (.slice (embL x.nodes) (allTok x)), S)) (i : Nat) (hi : i < kids.length) (fs : FS) (h : GI n [c0, c1', c2', c3', c4', .slice (embL kids) (tokOf tk)] e kids S0 i fs) :
    ∃ fs', evCode ⟨Tryz.prog, E.esc 32, n⟩ (ev Tryz.prog E n) (E.ps 32) n gLoop fs = some (.norm, fs') ∧ GI n [c0, c1', c2', c3', c4', .slice (embL kids) (tokOf tk)] e kids S0 (i + 1) fs' := by
  obtain ⟨t, b, v, S⟩ := fs
  obtain ⟨h1, h2, h3, h4⟩ := h
  simp only at h1 h2 h3 h4
  have hlk := sizeL_length kids
  have hlen := embL_length kids
  have hltz : (i : Int) < kids.length := by omega
  have hxe : kids[i]? = some kids[i] := List.getElem?_eq_getElem hi
  have hr := hrec kids[i] (List.getElem_mem hi) S
  have hsplit : kids.take (i + 1) = kids.take i ++ [kids[i]] := by rw [List.take_add_one, hxe]; rfl
  have hnd : nodesL (kids.take (i + 1)) = nodesL (kids.take i) ++ kids[i].nodes := by rw [hsplit, nodesL_append]; simp [nodesL]
  have hemb : (embL kids)[i]? = some kids[i].emb := by rw [embL_map, List.getElem?_map, hxe]; rfl
  have ha1 := cells_all kids[i]
  have hc1 := (cells_ok kids[i]).2
  have ht1 : List.take 6 kids[i].cells = kids[i].cells := List.take_of_length_le (by omega)
  have hne := nodes_ne kids[i]
  have hsz1 := nodes_size kids[i]
  have hsz2 := sizeL_mem (List.getElem_mem hi)
  have hsz3 := nodesL_size (kids.take i)
  have hsz4 := take_size kids i
  rw [emb_cells] at hemb hr
  have hw : IntKind.i64.wrap ((i : Int) + 1) = (i : Int) + 1 := wrap64 _ (by omega)
  obtain ⟨z, hz⟩ := ii24
  by_cases h0 : i = 0
  · subst h0
    rw [if_pos rfl] at h4
    obtain ⟨h4, rfl⟩ := h4
    have ha := appC [e] kids[0].nodes (allTok kids[0]) S hne (by simp) (by omega)
    generalize kids[0].nodes = N at *
    generalize allTok kids[0] = tA at *
    generalize kids[0].cells = C1 at *
    generalize hE : embL [e] = ee at *
    generalize hEN : embL ([e] ++ N) = eN at *
    refine ⟨_, by
      simp (disch := first | (simp only [List.length_append, List.length_cons, List.length_nil]; omega) | (simp; done) | assumption) [AV.cells?, AV.isCell, gLoop, cutC, bodyOf, Tryz.f32, E_esc, h1, h2, h3, h4, fq5, k22, c22, a22, k24, c24, a24, i24, hz, sq22, bq3, hlen, hi, hltz, hemb, hr, ha1, hc1, ht1, ha]
      rfl, by simp [upd, h1], by simp [upd, h2], by simp [upd, wrap64 1 (by omega)], ?_⟩
    rw [if_neg (by omega), hnd]
    refine ⟨([e].length + N.length) * 6, ?_, rfl⟩
    rw [← hEN]
    simp [upd, nodesL]
  · rw [if_neg h0] at h4
    obtain ⟨p, h4, rfl⟩ := h4
    have ha := appO (e :: nodesL (kids.take i)) kids[i].nodes (allTok kids[i]) S0 p hne (by simp; omega) (by omega)
    generalize kids[i].nodes = N at *
    generalize allTok kids[i] = tA at *
    generalize kids[i].cells = C1 at *
    generalize hE : embL (e :: nodesL (kids.take i)) = ee at *
    generalize hEN : embL (e :: nodesL (kids.take i) ++ N) = eN at *
    refine ⟨_, by
      simp (disch := first | (simp only [List.length_append, List.length_cons, List.length_nil]; omega) | (simp; done) | assumption) [AV.cells?, AV.isCell, gLoop, cutC, bodyOf, Tryz.f32, E_esc, h1, h2, h3, h4, fq5, k22, c22, a22, k24, c24, a24, i24, hz, sq22, bq3, hlen, hi, hltz, hemb, hr, ha1, hc1, ht1, ha]
      rfl, by simp [upd, h1], by simp [upd, h2], by simp [upd, hw], ?_⟩
    rw [if_neg (by omega), hnd]
    refine ⟨p + N.length * 6, ?_, rfl⟩
    rw [← List.cons_append, hEN]
    simp [upd]

theorem ev_All : ∀ (m : Nat) (x : X), x.size ≤ m → m ≤ 1048000 → ∀ n, m + 2 ≤ n → ∀ S, ev Tryz.prog E n 32 [x.emb] S = some (.ret (.slice (embL x.nodes) (allTok x)), S)
  | 0, x, hm, _, _, _, _ => absurd hm (by have := size_pos x; omega)
  | m + 1, x, hm, hmm, n, hn, S => by
    obtain ⟨n, rfl⟩ : ∃ k, n = k + 1 := ⟨n - 1, by omega⟩
    obtain ⟨k, nm, a, lo, hi, tk, kids⟩ := x
    simp only [X.size] at hm
    have hl := sizeL_length kids
    have hlen := embL_length kids
    have hE1 : AV.agg [.int .i64 k, .str nm, .int .i64 a, .int .i64 lo, .int .i64 hi, .slice (embL kids) (tokOf tk)] = (X.mk k nm a lo hi tk kids).emb := rfl
    have hbs : evBuildSlice Tryz.prog 23 1 [(0, AV.agg [.int .i64 k, .str nm, .int .i64 a, .int .i64 lo, .int .i64 hi, .slice (embL kids) (tokOf tk)])] = some (.slice (embL [X.mk k nm a lo hi tk kids]) .clip) := by
      simp [evBuildSlice, sq22, z24, c24, a24, evElems, AV.cells?, AV.isCell, embL, X.emb]
    simp only [X.emb]
    rw [ev_enter (n := n) (show E.ok 32 = true from rfl) Tryz.func32 f33b (Nat.le_of_ble_eq_true rfl) (by decide +kernel)]
    cases h4 : k == 4
    · have key : ∀ fs, GI n [.int .i64 k, .str nm, .int .i64 a, .int .i64 lo, .int .i64 hi, .slice (embL kids) (tokOf tk)] (.mk k nm a lo hi tk kids) kids S 0 fs → ∃ fs', iter n (evCode ⟨Tryz.prog, E.esc 32, n⟩ (ev Tryz.prog E n) (E.ps 32) n gLoop) fs = some (.exit 0, fs') ∧
          GI n [.int .i64 k, .str nm, .int .i64 a, .int .i64 lo, .int .i64 hi, .slice (embL kids) (tokOf tk)] (.mk k nm a lo hi tk kids) kids S kids.length fs' := fun fs h => by
        obtain ⟨⟨o, fs'⟩, r1, r2, r3⟩ := iter_range (Q := fun r => r.1 = .exit 0 ∧ GI n [.int .i64 k, .str nm, .int .i64 a, .int .i64 lo, .int .i64 hi, .slice (embL kids) (tokOf tk)] (.mk k nm a lo hi tk kids) kids S kids.length r.2) (len := kids.length)
          (fun i hi' fs h => all_round2 n _ _ _ _ _ tk _ kids S (by omega) (fun x hx S => ev_All m x (by have := sizeL_mem hx; omega) (by omega) n (by omega) S) i hi' fs h)
          (fun fs h => by
            obtain ⟨t, b, v, S'⟩ := fs
            obtain ⟨h1, h2, h3, h4⟩ := h
            simp only at h1 h2 h3 h4
            refine ⟨.exit 0, _, by
              simp (disch := first | (simp only [List.length_append, List.length_cons, List.length_nil]; omega) | (simp; done) | assumption) [AV.cells?, AV.isCell, gLoop, cutC, bodyOf, Tryz.f32, h1, h2, h3, fq5, k22, c22, a22, bq3, sq22, hlen]
              rfl, by simp, rfl, by simp [upd, h1], by simp [upd, h2], by simp [upd, h3], by simpa [upd] using h4⟩) kids.length 0 n fs (by omega) (by omega) h
        simp only at r2
        subst r2
        exact ⟨fs', r1, r3⟩
      generalize hee : embL [X.mk k nm a lo hi tk kids] = ee at *
      obtain ⟨⟨t, b, v, S'⟩, hr, g1, g2, g3, g4⟩ := key ⟨upd 4 (.int .i64 0) (upd 9 (.bool false) (upd 8 (.int .i64 k) (upd 7 (.loc n 1 1 0) (upd 3 (.slice ee .clip) (upd 6 (.slice ee .clip) (upd 5 (.agg [.int .i64 k, .str nm, .int .i64 a, .int .i64 lo, .int .i64 hi, .slice (embL kids) (tokOf tk)])
        (upd 2 (.slice [] .clip) (upd 1 (.loc n 1 1 0) (argsA [.agg [.int .i64 k, .str nm, .int .i64 a, .int .i64 lo, .int .i64 hi, .slice (embL kids) (tokOf tk)]]))))))))),
        upd 1 (1, [.int .i64 k, .str nm, .int .i64 a, .int .i64 lo, .int .i64 hi, .slice (embL kids) (tokOf tk)]) (fun _ => (0, [])), 9, S⟩
        ⟨by simp [upd], by simp [upd], by simp [upd], by rw [if_pos rfl]; exact ⟨by simp [upd, hee], rfl⟩⟩
      simp only at g1 g2 g3 g4
      by_cases h0 : kids.length = 0
      · have : kids = [] := List.eq_nil_of_length_eq_zero h0
        subst this
        rw [if_pos (show ([] : List X).length = 0 from rfl)] at g4
        obtain ⟨g4, rfl⟩ := g4
        rw [hee] at g4
        have hf := fin_clip [X.mk k nm a lo hi tk []] S'
        rw [hee] at hf
        have hnn : embL (X.mk k nm a lo hi tk []).nodes = ee := by rw [← hee]; simp [X.nodes, nodesL]
        rw [hnn]
        simp (disch := first | (simp only [List.length_append, List.length_cons, List.length_nil]; omega) | (simp; done) | assumption) [AV.cells?, AV.isCell, -evBuildSlice, gl0, gl1, gl2, gl3, gl4, cutC, bodyOf, Tryz.f32, E_esc, k24, c24, a24, k3, c3, a3, fq0, bq3, h4, hr, g4, hf, hbs, allTok]
      · rw [if_neg h0] at g4
        obtain ⟨p, g4, rfl⟩ := g4
        rw [List.take_length] at g4
        have hnn : (X.mk k nm a lo hi tk kids).nodes = X.mk k nm a lo hi tk kids :: nodesL kids := by simp [X.nodes, h4]
        rw [← hnn] at g4
        have hf := fin_own (X.mk k nm a lo hi tk kids).nodes S p [p]
        generalize embL (X.mk k nm a lo hi tk kids).nodes = en at *
        simp (disch := first | (simp only [List.length_append, List.length_cons, List.length_nil]; omega) | (simp; done) | assumption) [AV.cells?, AV.isCell, -evBuildSlice, gl0, gl1, gl2, gl3, gl4, cutC, bodyOf, Tryz.f32, E_esc, k24, c24, a24, k3, c3, a3, fq0, bq3, h4, hr, g4, hf, hbs, allTok, h0, show kids ≠ [] from fun h => h0 (by rw [h]; rfl)]
    · have hnn : (X.mk k nm a lo hi tk kids).nodes = [X.mk k nm a lo hi tk kids] := by simp [X.nodes, h4]
      have hf := fin_clip [X.mk k nm a lo hi tk kids] S
      rw [hnn]
      generalize embL [X.mk k nm a lo hi tk kids] = ee at *
      simp (disch := first | (simp only [List.length_append, List.length_cons, List.length_nil]; omega) | (simp; done) | assumption) [AV.cells?, AV.isCell, -evBuildSlice, gl0, gl1, gl2, gl3, gl4, cutC, bodyOf, Tryz.f32, E_esc, k24, c24, a24, k3, c3, a3, fq0, bq3, h4, hf, hbs, allTok]
end Go.Proofs.YtemggoaefohliaaGreatDoor.CK
/- The reference's Check, evaluated (made by genck.py). No condition. -/
namespace Go.Proofs.YtemggoaefohliaaGreatDoor.CK
set_option linter.unusedVariables false
set_option linter.unusedSimpArgs false
open Go AE EX PT
set_option maxRecDepth 100000


noncomputable def cLoop : Code := cutC (bodyOf Tryz.f14) [1, 1, 1, 1, 0, 1, 0, 0]
noncomputable def cl0 : Code := cutC (bodyOf Tryz.f14) [0]
noncomputable def cl1 : Code := cutC (bodyOf Tryz.f14) [1, 0]
noncomputable def cl2 : Code := cutC (bodyOf Tryz.f14) [1, 1, 0]
noncomputable def cl3 : Code := cutC (bodyOf Tryz.f14) [1, 1, 1, 0]
noncomputable def cl4 : Code := cutC (bodyOf Tryz.f14) [1, 1, 1, 1, 0, 0]
noncomputable def cl5 : Code := cutC (bodyOf Tryz.f14) [1, 1, 1, 1, 1]
theorem f16b : Tryz.f14.body = some (.seq cl0 (.seq cl1 (.seq cl2 (.seq cl3 (.seq (.seq cl4 (.block 0 (.loop cLoop))) cl5))))) := rfl

def CI (N : List X) (tok : Tok) (S0 : St) (m : Nat) (fs : FS) : Prop :=
  ∃ i, i + m = N.length ∧ fs.t 3 = .slice (embL N) tok ∧ fs.t 4 = .int .i64 i ∧ fs.S = S0 ∧ ∀ y ∈ N.take i, PT.Good y
def CQ (N : List X) (S0 : St) (r : Out × FS) : Prop :=
  r.2.S = S0 ∧ ((r.1 = .exit 0 ∧ ∀ y ∈ N, PT.Good y) ∨ (r.1 = .ret ∧ r.2.t 2 = .int .i64 12 ∧ ∃ y ∈ N, ¬ PT.Good y))

theorem check_round (n : Nat) (hn : 44 ≤ n) (N : List X) (tok : Tok) (S0 : St) (hs : N.length ≤ 1048576) (m : Nat) (fs : FS) (h : CI N tok S0 m fs) :
    ∃ o fs', evCode ⟨Tryz.prog, E.esc 14, n⟩ (ev Tryz.prog E n) (E.ps 14) n cLoop fs = some (o, fs') ∧ ((o = .norm ∧ ∃ m', m' < m ∧ CI N tok S0 m' fs') ∨ (o ≠ .norm ∧ CQ N S0 (o, fs'))) := by
  obtain ⟨t, b, v, S⟩ := fs
  obtain ⟨i, hi, h1, h2, h3, h4⟩ := h
  simp only at h1 h2 h3
  subst h3
  have hlen := embL_length N
  cases m with
  | zero =>
    have hi : i = N.length := by omega
    subst hi
    refine ⟨.exit 0, _, by
      simp (disch := first | (simp only [List.length_append, List.length_cons, List.length_nil]; omega) | (simp; done) | assumption) [AV.cells?, AV.isCell, cLoop, cutC, bodyOf, Tryz.f14, h1, h2, sq22, bq3, hlen]
      rfl, .inr ⟨by simp, rfl, .inl ⟨rfl, by simpa using h4⟩⟩⟩
  | succ m =>
    have hlt : i < N.length := by omega
    have hltz : (i : Int) < N.length := by omega
    have hxe : N[i]? = some N[i] := List.getElem?_eq_getElem hlt
    have htake : N.take (i + 1) = N.take i ++ [N[i]] := by rw [List.take_add_one, hxe]; rfl
    have hemb : (embL N)[i]? = some N[i].emb := by rw [embL_map, List.getElem?_map, hxe]; rfl
    have hw : IntKind.i64.wrap ((i : Int) + 1) = (i : Int) + 1 := wrap64 _ (by omega)
    obtain ⟨z, hz⟩ := ii24
    have hxm : N[i] ∈ N := List.getElem_mem hlt
    generalize N[i] = x at *
    obtain ⟨k, nm, a, lo, hi', tk, ks⟩ := x
    obtain ⟨n, rfl⟩ : ∃ q, n = q + 1 := ⟨n - 1, by omega⟩
    have hK := ev_Kids n k S
    have hks := embL_length ks
    simp only [X.emb] at hemb
    by_cases hk : kinds k
    rotate_left 1
    · rw [kidsI_out hk] at hK
      refine ⟨.ret, _, by
        simp (disch := first | (simp only [List.length_append, List.length_cons, List.length_nil]; omega) | (simp; done) | assumption) [AV.cells?, AV.isCell, cLoop, cutC, bodyOf, Tryz.f14, h1, h2, sq22, bq3, hlen, hlt, hltz, c24, a24, i24, hz, k24, k3, c3, a3, fq0, hemb, hK]
        rfl, .inr ⟨by simp, rfl, .inr ⟨rfl, by simp [upd], _, hxm, fun g => hk g.1⟩⟩⟩
    obtain ⟨bf, hF, hfit⟩ := ev_fits (n + 1) (by omega) k nm a lo hi' (.slice (embL ks) (tokOf tk)) rfl hk S
    have good : (k ≠ 4 → (ks.length : Int) = kidsI k) → (k = 4 → SetOK ks) → bf = true → ∀ y ∈ N.take (i + 1), PT.Good y := fun g2 g3 gb y hy => by
      rw [htake] at hy
      rcases List.mem_append.1 hy with hy | hy
      · exact h4 y hy
      · simp at hy; subst hy; exact ⟨hk, g2, g3, hfit.1 gb⟩
    by_cases h4k : k = 4
    · subst h4k
      obtain ⟨bs, hS, hset⟩ := ev_set n (by omega) 4 nm a lo hi' tk ks S
      have e4 : kidsI 4 = -1 := by decide
      rw [e4] at hK
      cases bs
      · refine ⟨.ret, _, by
          simp (disch := first | (simp only [List.length_append, List.length_cons, List.length_nil]; omega) | (simp; done) | assumption) [AV.cells?, AV.isCell, cLoop, cutC, bodyOf, Tryz.f14, h1, h2, sq22, bq3, hlen, hlt, hltz, c24, a24, i24, hz, k24, k3, c3, a3, k22, c22, a22, fq0, fq5, hemb, hK, hS]
          rfl, .inr ⟨by simp, rfl, .inr ⟨rfl, by simp [upd], _, hxm, fun g => by have := hset.2 (g.2.2.1 rfl); cases this⟩⟩⟩
      · cases bf
        · refine ⟨.ret, _, by
            simp (disch := first | (simp only [List.length_append, List.length_cons, List.length_nil]; omega) | (simp; done) | assumption) [AV.cells?, AV.isCell, cLoop, cutC, bodyOf, Tryz.f14, h1, h2, sq22, bq3, hlen, hlt, hltz, c24, a24, i24, hz, k24, k3, c3, a3, k22, c22, a22, fq0, fq5, hemb, hK, hS, hF]
            rfl, .inr ⟨by simp, rfl, .inr ⟨rfl, by simp [upd], _, hxm, fun g => by have := hfit.2 g.2.2.2; cases this⟩⟩⟩
        · refine ⟨.norm, _, by
            simp (disch := first | (simp only [List.length_append, List.length_cons, List.length_nil]; omega) | (simp; done) | assumption) [AV.cells?, AV.isCell, cLoop, cutC, bodyOf, Tryz.f14, h1, h2, sq22, bq3, hlen, hlt, hltz, c24, a24, i24, hz, k24, k3, c3, a3, k22, c22, a22, fq0, fq5, hemb, hK, hS, hF]
            rfl, .inl ⟨rfl, m, by omega, i + 1, by omega, by simp [upd, h1], by simp [upd, hw], rfl, good (by simp) (fun _ => hset.1 rfl) rfl⟩⟩
    · have hv := kidsI_vals hk h4k
      have v1 : (kidsI k == -2) = false := by simp; omega
      have v2 : (kidsI k == -1) = false := by simp; omega
      have v3 : decide (0 ≤ kidsI k) = true := by simp; omega
      have hz5 : (embL ks).length = ks.length := hks
      generalize hKK : kidsI k = K at *
      cases v4 : ((ks.length : Int) == K)
      · refine ⟨.ret, _, by
          simp (disch := first | (simp only [List.length_append, List.length_cons, List.length_nil]; omega) | (simp; done) | assumption) [AV.cells?, AV.isCell, cLoop, cutC, bodyOf, Tryz.f14, h1, h2, sq22, bq3, hlen, hlt, hltz, c24, a24, i24, hz, k24, k3, c3, a3, k22, c22, a22, fq0, fq5, hemb, hK, hks, bne, v1, v2, v3, v4]
          rfl, .inr ⟨by simp, rfl, .inr ⟨rfl, by simp [upd], _, hxm, fun g => by have := g.2.1 h4k; rw [hKK] at this; simp [this] at v4⟩⟩⟩
      · have e5 : (ks.length : Int) = K := by simpa using v4
        cases bf
        · refine ⟨.ret, _, by
            simp (disch := first | (simp only [List.length_append, List.length_cons, List.length_nil]; omega) | (simp; done) | assumption) [AV.cells?, AV.isCell, cLoop, cutC, bodyOf, Tryz.f14, h1, h2, sq22, bq3, hlen, hlt, hltz, c24, a24, i24, hz, k24, k3, c3, a3, k22, c22, a22, fq0, fq5, hemb, hK, hks, bne, v1, v2, v3, v4, hF]
            rfl, .inr ⟨by simp, rfl, .inr ⟨rfl, by simp [upd], _, hxm, fun g => by have := hfit.2 g.2.2.2; cases this⟩⟩⟩
        · refine ⟨.norm, _, by
            simp (disch := first | (simp only [List.length_append, List.length_cons, List.length_nil]; omega) | (simp; done) | assumption) [AV.cells?, AV.isCell, cLoop, cutC, bodyOf, Tryz.f14, h1, h2, sq22, bq3, hlen, hlt, hltz, c24, a24, i24, hz, k24, k3, c3, a3, k22, c22, a22, fq0, fq5, hemb, hK, hks, bne, v1, v2, v3, v4, hF]
            rfl, .inl ⟨rfl, m, by omega, i + 1, by omega, by simp [upd, h1], by simp [upd, hw], rfl, good (fun _ => e5) (fun hh => absurd hh h4k) rfl⟩⟩
end Go.Proofs.YtemggoaefohliaaGreatDoor.CK
/- The reference's Check, evaluated (made by genck.py). No condition. -/
namespace Go.Proofs.YtemggoaefohliaaGreatDoor.CK
set_option linter.unusedVariables false
set_option linter.unusedSimpArgs false
open Go AE EX PT
open NF (chkX MayAll)
set_option maxRecDepth 100000


theorem ev_Check (n : Nat) (x : X) (hx : x.size + 3 ≤ n) (hn : 44 ≤ n) (hs : x.size ≤ 1048000) (S : St) :
    ev Tryz.prog E (n + 1) 14 [x.emb] S = some (.ret (.int .i64 (chkX x)), S) := by
  have hD := ev_Depth x.size x (Nat.le_refl _) (by omega) n (by omega) S
  have hA := ev_All x.size x (Nat.le_refl _) (by omega) n (by omega) S
  have hns := nodes_size x
  have hlen := embL_length x.nodes
  have ha1 := cells_all x
  have hc1 := (cells_ok x).2
  have ht1 : List.take 6 x.cells = x.cells := List.take_of_length_le (by omega)
  have key : ∀ fs, CI x.nodes (allTok x) S x.nodes.length fs → ∃ r, iter n (evCode ⟨Tryz.prog, E.esc 14, n⟩ (ev Tryz.prog E n) (E.ps 14) n cLoop) fs = some r ∧ CQ x.nodes S r := fun fs h =>
    iter_meas (fun m fs h => check_round n hn x.nodes (allTok x) S (by omega) m fs h) x.nodes.length n fs (by omega) h
  rw [ev_enter (n := n) (show E.ok 14 = true from rfl) Tryz.func14 f16b (Nat.le_of_ble_eq_true rfl) (by decide +kernel)]
  rw [emb_cells] at hD hA ⊢
  by_cases h12 : 12 < x.dep
  · have h12z : (12 : Int) < x.dep := by omega
    rw [show chkX x = 32 from if_pos h12]
    generalize x.cells = C1 at *
    simp (disch := first | (simp only [List.length_append, List.length_cons, List.length_nil]; omega) | (simp; done) | assumption) [AV.cells?, AV.isCell, cl0, cl1, cl2, cl3, cl4, cl5, cutC, bodyOf, Tryz.f14, E_esc, k24, c24, a24, bq3, ha1, hc1, ht1, hD, h12, h12z]
  have h12z : ¬ (12 : Int) < x.dep := by omega
  by_cases h64 : 64 < x.nodes.length
  · have h64z : (64 : Int) < x.nodes.length := by omega
    rw [show chkX x = 3 by unfold chkX; rw [if_neg h12, if_pos h64]]
    generalize x.cells = C1 at *
    simp (disch := first | (simp only [List.length_append, List.length_cons, List.length_nil]; omega) | (simp; done) | assumption) [AV.cells?, AV.isCell, cl0, cl1, cl2, cl3, cl4, cl5, cutC, bodyOf, Tryz.f14, E_esc, k24, c24, a24, bq3, sq22, ha1, hc1, ht1, hD, hA, hlen, h12, h12z, h64, h64z]
  have h64z : ¬ (64 : Int) < x.nodes.length := by omega
  obtain ⟨⟨o, t, b, v, S'⟩, hr, hS, hq⟩ := key ⟨upd 4 (.int .i64 0) (upd 13 (.bool false) (upd 12 (.int .i64 x.nodes.length) (upd 11 (.slice (embL x.nodes) (allTok x)) (upd 3 (.slice (embL x.nodes) (allTok x)) (upd 10 (.slice (embL x.nodes) (allTok x)) (upd 9 (.agg x.cells)
    (upd 8 (.bool false) (upd 7 (.int .i64 x.dep) (upd 6 (.agg x.cells) (upd 2 (.int .i64 0) (upd 1 (.loc n 1 1 0) (argsA [.agg x.cells])))))))))))), upd 1 (1, x.cells) (fun _ => (0, [])), 12, S⟩
    ⟨0, by omega, by simp [upd], by simp [upd], rfl, by simp⟩
  simp only at hS hq
  subst hS
  rcases hq with ⟨rfl, ha⟩ | ⟨rfl, h2, y, hy, hno⟩
  · rw [show chkX x = 0 by unfold chkX; rw [if_neg h12, if_neg h64, if_pos (show MayAll x from ha)]]
    generalize x.cells = C1 at *
    simp (disch := first | (simp only [List.length_append, List.length_cons, List.length_nil]; omega) | (simp; done) | assumption) [AV.cells?, AV.isCell, cl0, cl1, cl2, cl3, cl4, cl5, cutC, bodyOf, Tryz.f14, E_esc, k24, c24, a24, bq3, sq22, ha1, hc1, ht1, hD, hA, hlen, h12, h12z, h64, h64z, hr]
  · rw [show chkX x = 12 by unfold chkX; rw [if_neg h12, if_neg h64, if_neg (show ¬ MayAll x from fun f => hno (f y hy))]]
    generalize x.cells = C1 at *
    simp (disch := first | (simp only [List.length_append, List.length_cons, List.length_nil]; omega) | (simp; done) | assumption) [AV.cells?, AV.isCell, cl0, cl1, cl2, cl3, cl4, cl5, cutC, bodyOf, Tryz.f14, E_esc, k24, c24, a24, bq3, sq22, ha1, hc1, ht1, hD, hA, hlen, h12, h12z, h64, h64z, hr, h2]

theorem ev_alive : ev Tryz.prog E 3000000 13 [] st0 = some (.ret (.bool true), st0) := by kernel_rfl
end Go.Proofs.YtemggoaefohliaaGreatDoor.CK
/- beadlelaw08.alive, evaluated. Condition: the world outside is closed. -/
namespace Go.Proofs.YtemggoaefohliaaGreatDoor.PS
set_option linter.unusedVariables false
set_option linter.unusedSimpArgs false
open Go AE EX PT NF LX
set_option maxRecDepth 100000

def aTxt : List UInt8 := [49, 32, 43, 32, 115, 46, 97]
def bTxt : List UInt8 := [49, 32, 43]
def aX : X := bothX 8 (leafX 1 [] 1 0) (leafX 5 [97] 0 0)
theorem lexA : lexAll aTxt = .ok [⟨2, [49], 1, 0⟩, ⟨4, [43], 0, 2⟩, ⟨1, [115], 0, 4⟩, ⟨4, [46], 0, 5⟩, ⟨1, [97], 0, 6⟩, ⟨5, [], 0, 7⟩] := by kernel_rfl
theorem lexB : lexAll bTxt = .ok [⟨2, [49], 1, 0⟩, ⟨4, [43], 0, 2⟩, ⟨5, [], 0, 3⟩] := by kernel_rfl
theorem takA : takeR [⟨2, [49], 1, 0⟩, ⟨4, [43], 0, 2⟩, ⟨1, [115], 0, 4⟩, ⟨4, [46], 0, 5⟩, ⟨1, [97], 0, 6⟩, ⟨5, [], 0, 7⟩] = .ok (aX, 5) := by kernel_rfl
theorem takB : takeR [⟨2, [49], 1, 0⟩, ⟨4, [43], 0, 2⟩, ⟨5, [], 0, 3⟩] = .error (16, 2) := by kernel_rfl
theorem okA : OKx aX := by
  refine ⟨by decide, by decide, ?_⟩
  have h1 : MayAll (leafX 1 [] 1 0) := (mayAll_more (by decide)).2 ⟨by simp [kinds], by decide, by constructor <;> simp, by simp⟩
  have h2 : MayAll (leafX 5 [97] 0 0) := (mayAll_more (by decide)).2 ⟨by simp [kinds], by decide, by constructor <;> simp <;> decide, by simp⟩
  have h3 : MayAll aX := (mayAll_more (by decide)).2 ⟨by simp [kinds], by decide, by constructor <;> simp, by
    intro x hx
    simp at hx
    rcases hx with rfl | rfl
    · exact h1
    · exact h2⟩
  exact h3
theorem exprA : exprR aTxt = .ok aX := by
  unfold exprR
  rw [lexA]
  simp only [takA]
  rw [if_pos (show (hereT _ 5).k = 5 from rfl), if_pos ((chkX_ok aX).2 okA)]
theorem exprB : exprR bTxt = .error (16, 3, 1) := by
  unfold exprR
  rw [lexB]
  simp only [takB]
  rfl

set_option maxHeartbeats 8000000 in
theorem ev_alive (n : Nat) (S0 : St) (hw : lowB S0.H.length S0.T.length S0.H = true) (hn : 1200000 ≤ n) : ev Tryz.prog E (n + 2) 6 [] S0 = some (.ret (.bool true), S0) := by
  have h1 := (ev_Expr n S0 aTxt (by decide) hw hn).1 _ exprA
  obtain ⟨id, S', i1, i2, ⟨j2, c2, p2, i3, i4⟩, i5⟩ := (ev_Expr n S0 bTxt (by decide) hw hn).2 _ _ _ exprB
  have hC := ev_Code (n - 1) S' id _ _ _ i3
  have hP := ev_Place (n - 1) S' id _ _ _ i3
  rw [show n - 1 + 2 = n + 1 by omega] at hC hP
  have hz25 : zeroQ Tryz.prog 25 = some z6 := by kernel_rfl
  have zc := xcells zX
  have zl := xlen zX
  have zt := xtake zX
  have ze := xemb zX
  have zd : List.drop 6 zX.cells = [] := rfl
  have ac := xcells aX
  have hti := tf27
  have l6 := z6_len
  have ha : aX.cells = [.int .i64 8, .str [], .int .i64 0, .int .i64 0, .int .i64 0, .slice (embL [leafX 1 [] 1 0, leafX 5 [97] 0 0]) .clip] := rfl
  have hia : evIndexAddr Tryz.prog 23 (.slice (embL [leafX 1 [] 1 0, leafX 5 [97] 0 0]) .clip) (.int .i64 1) = some (.ref [.int .i64 5, .str [97], .int .i64 0, .int .i64 0, .int .i64 0, .slice [] .clip]) := by
    have hi : (Tryz.prog.info? 25).isSome = true := i24
    simp [evIndexAddr, sq22, nth, embL, X.emb, AV.cells?, AV.isCell, c24, leafX, tokOf]
    exact Option.isSome_iff_ne_none.1 hi
  have hel : (embL [leafX 1 [] 1 0, leafX 5 [97] 0 0]).length = 2 := rfl
  have hlen : evLen Tryz.prog 23 (.slice (embL [leafX 1 [] 1 0, leafX 5 [97] 0 0]) .clip) = some (.int .i64 2) := by simp [evLen, sq22, embL]
  have hf : finish S0 (.bool true) S' = some (.bool true, S0) := fin_grow i5 _ rfl rfl rfl
  have hb30 := tb30
  simp only [aTxt, bTxt] at h1 i2
  generalize embL [leafX 1 [] 1 0, leafX 5 [97] 0 0] = es at *
  rw [ha] at ac
  have al : (6 : Nat) = 6 := rfl
  generalize aX.emb = ae at *
  generalize zX.cells = zcs at *
  generalize zX.emb = zem at *
  generalize z6 = z at *
  rw [show n + 2 = (n + 1) + 1 from rfl, ev_enter (n := n + 1) (show E.ok 6 = true from rfl) Tryz.func6 (fn := Tryz.f6) rfl (Nat.le_of_ble_eq_true rfl) (by decide +kernel)]
  simp (disch := first | (simp only [List.length_append, List.length_cons, List.length_nil]; omega) | (simp; done) | assumption) [AV.cells?, AV.isCell, -AV.cells?, cq_int, cq_nilif, cq_iface, -evBuild, -evIndexAddr, -evLen, Tryz.f6, E_esc, hz25, h1, i2, hC, hP, ac, zc, zl, zt, ze, zd, l6, hia, hlen, hf, c24, a24, k24, i24, k3, c3, a3, k22, c22, a22, k9, a9, c9, bq3, bq9, hb30, fq0, fq1, fq5, ofC]

end Go.Proofs.YtemggoaefohliaaGreatDoor.PS
/- PrintBack, the law. Condition: the world outside is closed. -/
namespace Go.Proofs.YtemggoaefohliaaGreatDoor.PB
set_option linter.unusedVariables false
set_option linter.unusedSimpArgs false
open Go AE EX PT NF LX PS
set_option maxRecDepth 100000

set_option maxHeartbeats 8000000 in
/-- PrintBack: true. -/
theorem law_PrintBack (n : Nat) (x : X) (hb : x.bulk ≤ 1048576) (hf : x.fit) (hn : n = 3000000) : ev Tryz.prog E (n + 1) 5 [x.emb] st0 = some (.ret (.bool true), st0) := by
  have hal : ev Tryz.prog E n 13 [] st0 = some (.ret (.bool true), st0) := by rw [hn]; exact CK.ev_alive
  have hsz7 := size7 x
  have hw : lowB st0.H.length st0.T.length st0.H = true := rfl
  have hK := CK.ev_Check (n - 1) x (by omega) (by omega) (by omega) st0
  rw [show n - 1 + 1 = n by omega] at hK
  have hz25 : zeroQ Tryz.prog 25 = some z6 := by kernel_rfl
  have zzd : List.drop 6 z6 = [] := rfl
  have hti := tf27
  have l6 := z6_len
  have hb30 := tb30
  have xc := xcells x
  have xl := xlen x
  have xt := xtake x
  have xe := xemb x
  have xd : List.drop 6 x.cells = [] := List.drop_eq_nil_of_le (by rw [xl]; omega)
  by_cases h0 : chkX x = 0
  · have hok := (chkX_ok x).1 h0
    have hmay := may_of x.size x (Nat.le_refl _) hok.2.2
    have hR := ev_rExpr x.bulk x (Nat.le_refl _) hmay hf hb n (by omega) st0
    have hE := ev_Expr x.bulk x (Nat.le_refl _) hmay hf hb n (by omega) st0
    have htl := txt_len x hf
    have hlen : evLen Tryz.prog 9 (.str x.txt) = some (.int .i64 (x.txt.length : Int)) := by simp [evLen, sq9]
    rw [h0] at hK
    by_cases hl : x.txt.length ≤ 4096
    · obtain ⟨y, y1, y2⟩ := expr_back hok hf hl
      have hP := (PS.ev_Expr (n - 1) st0 x.txt (by omega) hw (by omega)).1 y y2
      rw [show n - 1 + 1 = n by omega] at hP
      have hys : y.size ≤ 1048576 := by
        have := (expr_parts y2).choose_spec.choose_spec.2.2.2.2.2
        have := size7 y
        omega
      have hS := ev_same y.size y x (Nat.le_refl _) (by omega) hys n (by omega) st0
      rw [y1] at hS
      have hlz : ¬ (4096 : Int) < x.txt.length := by omega
      have yc := xcells y
      have yl := xlen y
      have yt := xtake y
      have ye := xemb y
      have yd : List.drop 6 y.cells = [] := List.drop_eq_nil_of_le (by rw [yl]; omega)
      generalize (x.txt.length : Int) = L at *
      generalize x.txt = t at *
      generalize x.cells = xcs at *
      generalize x.emb = xem at *
      generalize y.cells = ycs at *
      generalize y.emb = yem at *
      generalize z6 = z at *
      rw [ev_enter (n := n) (show E.ok 5 = true from rfl) Tryz.func5 (fn := Tryz.f5) rfl (Nat.le_of_ble_eq_true rfl) (by decide +kernel)]
      simp (disch := first | (simp only [List.length_append, List.length_cons, List.length_nil]; omega) | (simp; done) | assumption) [AV.cells?, AV.isCell, -AV.cells?, -evLen, cq_int, cq_nilif, cq_iface, cq_bool, -evBuild, Tryz.f5, E_esc, hz25, hal, hK, hR, hE, hP, hS, hlen, hlz, xc, xl, xt, xe, xd, yc, yl, yt, ye, yd, l6, zzd, c24, a24, k24, i24, k3, c3, a3, bq3, hb30, ofC]
    · have hlz : (4096 : Int) < x.txt.length := by omega
      generalize (x.txt.length : Int) = L at *
      generalize x.txt = t at *
      generalize x.cells = xcs at *
      generalize x.emb = xem at *
      generalize z6 = z at *
      rw [ev_enter (n := n) (show E.ok 5 = true from rfl) Tryz.func5 (fn := Tryz.f5) rfl (Nat.le_of_ble_eq_true rfl) (by decide +kernel)]
      simp (disch := first | (simp only [List.length_append, List.length_cons, List.length_nil]; omega) | (simp; done) | assumption) [AV.cells?, AV.isCell, -AV.cells?, -evLen, cq_int, cq_nilif, cq_iface, cq_bool, -evBuild, Tryz.f5, E_esc, hz25, hal, hK, hR, hlen, hlz, xc, xl, xt, xe, xd, l6, zzd, c24, a24, k24, i24, k3, c3, a3, bq3, hb30, ofC]
  · generalize chkX x = cc at *
    generalize x.cells = xcs at *
    generalize x.emb = xem at *
    generalize z6 = z at *
    rw [ev_enter (n := n) (show E.ok 5 = true from rfl) Tryz.func5 (fn := Tryz.f5) rfl (Nat.le_of_ble_eq_true rfl) (by decide +kernel)]
    simp (disch := first | (simp only [List.length_append, List.length_cons, List.length_nil]; omega) | (simp; done) | assumption) [AV.cells?, AV.isCell, -AV.cells?, cq_int, cq_nilif, cq_iface, cq_bool, -evBuild, Tryz.f5, E_esc, hz25, hal, hK, h0, xc, xl, xt, xe, xd, l6, zzd, c24, a24, k24, i24, k3, c3, a3, bq3, hb30, ofC]
end Go.Proofs.YtemggoaefohliaaGreatDoor.PB
/- errors.As at the two targets that fault.Code and fault.Place hand it, by its contracts. Condition: the cell of errors.errorType. (After the kit's worked ToyasAs.) -/
namespace Go.Proofs.YtemggoaefohliaaGreatDoor.FA
set_option linter.unusedVariables false
set_option linter.unusedSimpArgs false
open Go Go.RowKit Go.Extern.Stop Go.Stop Go.Extern

/-- errors.As(nil, target). -/
theorem as_nil (t : Value) (w : World) :
    Calls Tryz.prog 44 #[.nilIface, t] w fun e w' => e = .returned (.bool false) ∧ w' = w := by
  go_enter Tryz.func44, Tryz.ntmps44
  go_wp2
  go_ret
  exact ⟨rfl, rfl⟩

theorem valueOf56 (t : Addr) (w : World) : (ReflectliteValue.unpack (.iface 79 (.pointer (some t)))).run Tryz.prog w
    = .ok (.agg #[.pointer (some ⟨2, 79, none⟩), .pointer (some ⟨w.heap.size, 0, none⟩), .int .u64 150]) (w.alloc (.cells #[.pointer (some t)] 79)) := by kernel_rfl
theorem valueOf51 (t : Addr) (w : World) : (ReflectliteValue.unpack (.iface 77 (.pointer (some t)))).run Tryz.prog w
    = .ok (.agg #[.pointer (some ⟨2, 77, none⟩), .pointer (some ⟨w.heap.size, 0, none⟩), .int .u64 150]) (w.alloc (.cells #[.pointer (some t)] 77)) := by kernel_rfl
theorem type56 (a : Addr) (w : World) : (ReflectliteValue.methodAny (ReflectliteValue.valueError "reflectlite.Value.Type" 0) (fun t _ _ _ => ReflectliteType.toType t) #[.agg #[.pointer (some ⟨2, 79, none⟩), .pointer (some a), .int .u64 150]]).run Tryz.prog w
    = .ok (.iface 132 (.agg #[.pointer (some ⟨2, 79, none⟩)])) w := by kernel_rfl
theorem type51 (a : Addr) (w : World) : (ReflectliteValue.methodAny (ReflectliteValue.valueError "reflectlite.Value.Type" 0) (fun t _ _ _ => ReflectliteType.toType t) #[.agg #[.pointer (some ⟨2, 77, none⟩), .pointer (some a), .int .u64 150]]).run Tryz.prog w
    = .ok (.iface 132 (.agg #[.pointer (some ⟨2, 77, none⟩)])) w := by kernel_rfl
theorem methodKind (h : Value) (w : World) : (Go.method 294 132 (.agg #[h]) "Kind").run Tryz.prog w = .ok (156, h) w := by kernel_rfl
theorem kind56 (w : World) : ((ReflectliteType.abiMethod fun t => (fun a : Nat => Value.int IntKind.u8 (a : Int)) <$> Rtype.kind t) #[.pointer (some ⟨2, 79, none⟩)]).run Tryz.prog w = .ok (.int .u8 22) w := by kernel_rfl
theorem kind51 (w : World) : ((ReflectliteType.abiMethod fun t => (fun a : Nat => Value.int IntKind.u8 (a : Int)) <$> Rtype.kind t) #[.pointer (some ⟨2, 77, none⟩)]).run Tryz.prog w = .ok (.int .u8 22) w := by kernel_rfl
theorem kind55 (w : World) : ((ReflectliteType.abiMethod fun t => (fun a : Nat => Value.int IntKind.u8 (a : Int)) <$> Rtype.kind t) #[.pointer (some ⟨2, 78, none⟩)]).run Tryz.prog w = .ok (.int .u8 22) w := by kernel_rfl
theorem kind30 (w : World) : ((ReflectliteType.abiMethod fun t => (fun a : Nat => Value.int IntKind.u8 (a : Int)) <$> Rtype.kind t) #[.pointer (some ⟨2, 48, none⟩)]).run Tryz.prog w = .ok (.int .u8 2) w := by kernel_rfl
theorem rlm (z : Sem Value) (f : TypeId → Addr → Nat → Nat → Sem Value) (v : Value) :
    ReflectliteValue.method z f #[v] = (do match ← ReflectliteValue.parts v with | none => z | some (t, a, fl) => f t a fl (fl % 32)) := rfl
theorem parts56 (a : Addr) (w : World) : (ReflectliteValue.parts (.agg #[.pointer (some ⟨2, 79, none⟩), .pointer (some a), .int .u64 150])).run Tryz.prog w = .ok (some (79, a, 150)) w := by kernel_rfl
theorem parts51 (a : Addr) (w : World) : (ReflectliteValue.parts (.agg #[.pointer (some ⟨2, 77, none⟩), .pointer (some a), .int .u64 150])).run Tryz.prog w = .ok (some (77, a, 150)) w := by kernel_rfl
theorem isNil56 (a p : Addr) (W : World) (ha : W.cell? a = some (.pointer (some p))) :
    (ReflectliteValue.method (ReflectliteValue.valueError "reflectlite.Value.IsNil" 0) ReflectliteValue.isNil #[.agg #[.pointer (some ⟨2, 79, none⟩), .pointer (some a), .int .u64 150]]).run Tryz.prog W = .ok (.bool false) W := by
  rw [rlm]
  simp only [Sem.run_bind, parts56, Result.andThen]
  simp [ReflectliteValue.isNil, loadVar, isAgg, underlying, Tryz.underlying79, ha, Result.andThen]
theorem isNil51 (a p : Addr) (W : World) (ha : W.cell? a = some (.pointer (some p))) :
    (ReflectliteValue.method (ReflectliteValue.valueError "reflectlite.Value.IsNil" 0) ReflectliteValue.isNil #[.agg #[.pointer (some ⟨2, 77, none⟩), .pointer (some a), .int .u64 150]]).run Tryz.prog W = .ok (.bool false) W := by
  rw [rlm]
  simp only [Sem.run_bind, parts51, Result.andThen]
  simp [ReflectliteValue.isNil, loadVar, isAgg, underlying, Tryz.underlying77, ha, Result.andThen]
theorem methodElem (h : Value) (w : World) : (Go.method 294 132 (.agg #[h]) "Elem").run Tryz.prog w = .ok (170, .agg #[h]) w := by kernel_rfl
theorem methodImplements (h : Value) (w : World) : (Go.method 294 132 (.agg #[h]) "Implements").run Tryz.prog w = .ok (171, .agg #[h]) w := by kernel_rfl
theorem methodAssignableTo (h : Value) (w : World) : (Go.method 294 132 (.agg #[h]) "AssignableTo").run Tryz.prog w = .ok (168, .agg #[h]) w := by kernel_rfl
theorem methodAs (h : Addr) (w : World) : (Go.method 294 78 (.pointer (some h)) "As").run Tryz.prog w = .ok (160, .pointer (some h)) w := by kernel_rfl
theorem elem56 (w : World) : (ReflectliteType.method ReflectliteType.elem #[.agg #[.pointer (some ⟨2, 79, none⟩)]]).run Tryz.prog w = .ok (.iface 132 (.agg #[.pointer (some ⟨2, 78, none⟩)])) w := by kernel_rfl
theorem elem51 (w : World) : (ReflectliteType.method ReflectliteType.elem #[.agg #[.pointer (some ⟨2, 77, none⟩)]]).run Tryz.prog w = .ok (.iface 132 (.agg #[.pointer (some ⟨2, 48, none⟩)])) w := by kernel_rfl
theorem implements55 (w : World) : (ReflectliteType.relation "Implements" ReflectliteType.implements_ #[.agg #[.pointer (some ⟨2, 78, none⟩)], .iface 132 (.agg #[.pointer (some ⟨2, 27, none⟩)])]).run Tryz.prog w = .ok (.bool true) w := by kernel_rfl
theorem implements30 (w : World) : (ReflectliteType.relation "Implements" ReflectliteType.implements_ #[.agg #[.pointer (some ⟨2, 48, none⟩)], .iface 132 (.agg #[.pointer (some ⟨2, 27, none⟩)])]).run Tryz.prog w = .ok (.bool true) w := by kernel_rfl
theorem typeOf55 (v : Value) (w : World) : (ReflectliteType.typeOf #[.iface 78 v]).run Tryz.prog w = .ok (.iface 132 (.agg #[.pointer (some ⟨2, 78, none⟩)])) w := by kernel_rfl
theorem assignable55 (w : World) : (ReflectliteType.relation "AssignableTo" ReflectliteType.assignableTo #[.agg #[.pointer (some ⟨2, 78, none⟩)], .iface 132 (.agg #[.pointer (some ⟨2, 78, none⟩)])]).run Tryz.prog w = .ok (.bool true) w := by kernel_rfl
theorem assignable30 (w : World) : (ReflectliteType.relation "AssignableTo" ReflectliteType.assignableTo #[.agg #[.pointer (some ⟨2, 78, none⟩)], .iface 132 (.agg #[.pointer (some ⟨2, 48, none⟩)])]).run Tryz.prog w = .ok (.bool false) w := by kernel_rfl
theorem valueOf55 (e : Addr) (w : World) : (ReflectliteValue.unpack (.iface 78 (.pointer (some e)))).run Tryz.prog w
    = .ok (.agg #[.pointer (some ⟨2, 78, none⟩), .pointer (some ⟨w.heap.size, 0, none⟩), .int .u64 150]) (w.alloc (.cells #[.pointer (some e)] 78)) := by kernel_rfl
theorem elemOf56 (w : World) : (Rtype.elem? 79).run Tryz.prog w = .ok (some 78) w := by kernel_rfl
theorem mk55 (p : Addr) (w : World) : (ReflectliteValue.mk 78 p ReflectliteValue.flagAddr).run Tryz.prog w = .ok (.agg #[.pointer (some ⟨2, 78, none⟩), .pointer (some p), .int .u64 406]) w := by kernel_rfl
theorem elemV56 (a p : Addr) (W : World) (ha : W.cell? a = some (.pointer (some p))) :
    (ReflectliteValue.method (ReflectliteValue.valueError "reflectlite.Value.Elem" 0) ReflectliteValue.elem #[.agg #[.pointer (some ⟨2, 79, none⟩), .pointer (some a), .int .u64 150]]).run Tryz.prog W
      = .ok (.agg #[.pointer (some ⟨2, 78, none⟩), .pointer (some p), .int .u64 406]) W := by
  rw [rlm]
  simp only [Sem.run_bind, parts56, Result.andThen]
  simp [ReflectliteValue.elem, loadVar, isAgg, underlying, Tryz.underlying79, ha, Result.andThen, elemOf56, mk55]
theorem rls (v x : Value) : ReflectliteValue.set #[v, x] = (do
    let (some (dst, a, fl), some (src, b, _)) := (← ReflectliteValue.parts v, ← ReflectliteValue.parts x)
      | unsupported (.noEntry "extern/(internal/reflectlite.Value).Set.zeroValue")
    if fl / ReflectliteValue.flagAddr % 2 == 0 then unsupported (.noEntry "extern/(internal/reflectlite.Value).Set.unaddressable")
    let val ← loadVar src b
    if ← Rtype.directlyAssignable dst src then storeVar dst a val
    else if ← Rtype.implements dst src then
      if (← Rtype.kind src) == 20 then
        match val with
        | .nilIface => unsupported (.noEntry "extern/reflectlite: a nil value of one interface type handed on as a value of another")
        | _ => storeVar dst a val
      else storeVar dst a (.iface src val)
    else panicString ("reflectlite.Set: value of type " ++ (← Rtype.spelt src) ++ " is not assignable to type " ++ (← Rtype.spelt dst))
    pure (.tuple #[])) := rfl
theorem parts55a (a : Addr) (w : World) : (ReflectliteValue.parts (.agg #[.pointer (some ⟨2, 78, none⟩), .pointer (some a), .int .u64 406])).run Tryz.prog w = .ok (some (78, a, 406)) w := by kernel_rfl
theorem parts55 (a : Addr) (w : World) : (ReflectliteValue.parts (.agg #[.pointer (some ⟨2, 78, none⟩), .pointer (some a), .int .u64 150])).run Tryz.prog w = .ok (some (78, a, 150)) w := by kernel_rfl
theorem direct55 (w : World) : (Rtype.directlyAssignable 78 78).run Tryz.prog w = .ok true w := by kernel_rfl
theorem set55 (ta b e : Addr) (old : Value) (W : World) (hb : W.cell? b = some (.pointer (some e))) (ht : W.cell? ta = some old) (hf : W.frozen? ta = false) :
    (ReflectliteValue.set #[.agg #[.pointer (some ⟨2, 78, none⟩), .pointer (some ta), .int .u64 406], .agg #[.pointer (some ⟨2, 78, none⟩), .pointer (some b), .int .u64 150]]).run Tryz.prog W
      = .ok (.tuple #[]) (W.setCell ta (.pointer (some e))) := by
  rw [rls]
  simp only [Sem.run_bind, parts55a, parts55, Result.andThen]
  simp [ReflectliteValue.flagAddr, loadVar, isAgg, underlying, Tryz.underlying78, hb, Result.andThen, direct55, storeVar, Value.cells, storeCells, Addr.add]
  rw [run_store Tryz.prog W ta _ _ (by rfl)]
  simp [ht, hf]
theorem hasAs (v : Value) (w : World) : (Instr.typeAssert (.iface 78 v) 27 137 true).run Tryz.prog w = .ok (.tuple #[.iface 78 v, .bool true]) w :=
  run_typeAssert_hasB Tryz.underlying137 (by kernel_rfl) v 27 w

end Go.Proofs.YtemggoaefohliaaGreatDoor.FA
/- errors.As at the two targets that fault.Code and fault.Place hand it: its walk. Condition: the cell of errors.errorType. (After the kit's worked ToyasAs.) -/
namespace Go.Proofs.YtemggoaefohliaaGreatDoor.FA
set_option linter.unusedVariables false
set_option linter.unusedSimpArgs false
open Go Go.RowKit Go.Extern.Stop Go.Stop Go.Extern
set_option maxRecDepth 100000
set_option maxHeartbeats 4000000

theorem isErrno (v : Value) (w : World) : (Instr.typeAssert (.iface 77 v) 20 77 true).run Tryz.prog w = .ok (.tuple #[v, .bool true]) w := by kernel_rfl
/-- (*Fault).As at a *Errno. -/
theorem fault_as (e t : Addr) (c : Int) (old : Value) (w : World) (he : w.cell? e = some (.int .i64 c)) (ht : w.cell? t = some old) (hf : w.frozen? t = false) :
    Calls Tryz.prog 160 #[.pointer (some e), .iface 77 (.pointer (some t))] w fun ev w' => ev = .returned (.bool true) ∧ w' = w.setCell t (.int .i64 c) := by
  have hE := isErrno
  go_enter Tryz.func160, Tryz.ntmps160
  go_wp2
  go_ret
  exact ⟨rfl, rfl⟩

/-- errors.As(a *Fault, a *Errno): the code is laid there. -/
theorem as_code (e t : Addr) (c : Int) (old : Value) (w : World) (hg : w.cell? ⟨0, 0, none⟩ = some (.iface 132 (.agg #[.pointer (some ⟨2, 27, none⟩)])))
    (he : w.cell? e = some (.int .i64 c)) (ht0 : w.cell? t = some old) (hf0 : w.frozen? t = false) :
    Calls Tryz.prog 44 #[.iface 78 (.pointer (some e)), .iface 77 (.pointer (some t))] w fun ev w' => ev = .returned (.bool true) ∧ w' = (((w.alloc (.cells #[.pointer (some t)] 77)).alloc (.cells #[.pointer (some ⟨2, 77, none⟩), .pointer (some ⟨w.heap.size, 0, none⟩), .int .u64 150] 99)).alloc (.cells #[.pointer (some ⟨2, 77, none⟩), .pointer (some ⟨w.heap.size, 0, none⟩), .int .u64 150] 99)).setCell t (.int .i64 c) := by
  have h34 := @run_callFunc_extern Tryz.prog 63 _ (fun args => ReflectliteValue.unpack (args.getD 0 (.tuple #[]))) Tryz.func63 (by kernel_rfl) (by kernel_rfl) (by kernel_rfl) (by kernel_rfl)
  have h35 := @run_callFunc_extern Tryz.prog 64 _ (ReflectliteValue.methodAny (ReflectliteValue.valueError "reflectlite.Value.Type" 0) (fun t _ _ _ => ReflectliteType.toType t)) Tryz.func64 (by kernel_rfl) (by kernel_rfl) (by kernel_rfl) (by kernel_rfl)
  have h36 := @run_callFunc_extern Tryz.prog 65 _ (ReflectliteValue.method (ReflectliteValue.valueError "reflectlite.Value.IsNil" 0) ReflectliteValue.isNil) Tryz.func65 (by kernel_rfl) (by kernel_rfl) (by kernel_rfl) (by kernel_rfl)
  have h97 := @run_callFunc_extern Tryz.prog 156 _ (ReflectliteType.abiMethod fun t => do pure (.int .u8 (← Rtype.kind t))) Tryz.func156 (by kernel_rfl) (by kernel_rfl) (by kernel_rfl) (by kernel_rfl)
  have h110 := @run_callFunc_extern Tryz.prog 170 _ (ReflectliteType.method ReflectliteType.elem) Tryz.func170 (by kernel_rfl) (by kernel_rfl) (by kernel_rfl) (by kernel_rfl)
  have h111 := @run_callFunc_extern Tryz.prog 171 _ (ReflectliteType.relation "Implements" ReflectliteType.implements_) Tryz.func171 (by kernel_rfl) (by kernel_rfl) (by kernel_rfl) (by kernel_rfl)
  have h49 := @run_callFunc_extern Tryz.prog 100 _ ReflectliteType.typeOf Tryz.func100 (by kernel_rfl) (by kernel_rfl) (by kernel_rfl) (by kernel_rfl)
  have h108 := @run_callFunc_extern Tryz.prog 168 _ (ReflectliteType.relation "AssignableTo" ReflectliteType.assignableTo) Tryz.func168 (by kernel_rfl) (by kernel_rfl) (by kernel_rfl) (by kernel_rfl)
  have tO := typeOf55
  have mA := methodAssignableTo
  have a30 := assignable30
  have f6 := valueOf51
  have f7 := type51
  have mK := methodKind
  have mE := methodElem
  have mI := methodImplements
  have mS := methodAs e
  have k51 := kind51
  have k30 := kind30
  have e51 := elem51
  have i30 := implements30
  have hA := hasAs
  have n8 := isNil51 ⟨w.heap.size, 0, none⟩ t ((w.alloc (.cells #[.pointer (some t)] 77)).alloc (.cells #[.pointer (some ⟨2, 77, none⟩), .pointer (some ⟨w.heap.size, 0, none⟩), .int .u64 150] 99)) (by simp)
  have hlt : 0 < w.heap.size := by
    rcases Nat.eq_zero_or_pos w.heap.size with h0 | h
    · simp [World.cell?, h0] at hg
    · exact h
  have hg2 : ((w.alloc (.cells #[.pointer (some t)] 77)).alloc (.cells #[.pointer (some ⟨2, 77, none⟩), .pointer (some ⟨w.heap.size, 0, none⟩), .int .u64 150] 99)).cell? ⟨0, 0, none⟩ = some (.iface 132 (.agg #[.pointer (some ⟨2, 27, none⟩)])) := by
    rw [World.cell?_alloc_lt _ _ ⟨0, 0, none⟩ (by simp), World.cell?_alloc_lt _ _ ⟨0, 0, none⟩ hlt]; exact hg
  have lt : ∀ {a : Addr} {v : Value}, w.cell? a = some v → a.block < w.heap.size := by
    intro a v h
    rcases Nat.lt_or_ge a.block w.heap.size with h' | h'
    · exact h'
    · simp [World.cell?, Array.getElem?_eq_none h'] at h
  have htl := lt ht0
  have hel := lt he
  have st := fault_as e t c old (((w.alloc (.cells #[.pointer (some t)] 77)).alloc (.cells #[.pointer (some ⟨2, 77, none⟩), .pointer (some ⟨w.heap.size, 0, none⟩), .int .u64 150] 99)).alloc (.cells #[.pointer (some ⟨2, 77, none⟩), .pointer (some ⟨w.heap.size, 0, none⟩), .int .u64 150] 99))
    (by rw [World.cell?_alloc_lt _ _ e (by simp; omega), World.cell?_alloc_lt _ _ e (by simp; omega), World.cell?_alloc_lt _ _ e hel]; exact he)
    (by rw [World.cell?_alloc_lt _ _ t (by simp; omega), World.cell?_alloc_lt _ _ t (by simp; omega), World.cell?_alloc_lt _ _ t htl]; exact ht0)
    (by rw [World.frozen?_alloc_old _ _ t (by simp; omega), World.frozen?_alloc_old _ _ t (by simp; omega), World.frozen?_alloc_old _ _ t (Nat.ne_of_lt htl)]; exact hf0)
  go_enter Tryz.func44, Tryz.ntmps44
  go_wp2
  refine wp_loop_rounds 1 ?_
  rw [rounds_succ]
  go_wp2_with (first | (go_at_call 160; refine st.mono ?_; rintro e w' ⟨rfl, rfl⟩))
  go_ret
  exact ⟨rfl, rfl⟩
end Go.Proofs.YtemggoaefohliaaGreatDoor.FA
/- errors.As at the two targets that fault.Code and fault.Place hand it: its second walk. Condition: the cell of errors.errorType. (After the kit's worked ToyasAs.) -/
namespace Go.Proofs.YtemggoaefohliaaGreatDoor.FA
set_option linter.unusedVariables false
set_option linter.unusedSimpArgs false
open Go Go.RowKit Go.Extern.Stop Go.Stop Go.Extern
set_option maxRecDepth 100000
set_option maxHeartbeats 4000000

/-- errors.As(a *Fault, a **Fault): the pointer is laid there. -/
theorem as_fault (e t : Addr) (old : Value) (w : World) (hg : w.cell? ⟨0, 0, none⟩ = some (.iface 132 (.agg #[.pointer (some ⟨2, 27, none⟩)]))) (ht0 : w.cell? t = some old) (hf0 : w.frozen? t = false) :
    Calls Tryz.prog 44 #[.iface 78 (.pointer (some e)), .iface 79 (.pointer (some t))] w fun ev w' => ev = .returned (.bool true) ∧ w' = ((((w.alloc (.cells #[.pointer (some t)] 79)).alloc (.cells #[.pointer (some ⟨2, 79, none⟩), .pointer (some ⟨w.heap.size, 0, none⟩), .int .u64 150] 99)).alloc (.cells #[.pointer (some ⟨2, 79, none⟩), .pointer (some ⟨w.heap.size, 0, none⟩), .int .u64 150] 99)).alloc (.cells #[.pointer (some e)] 78)).setCell t (.pointer (some e)) := by
  have hx34 := @run_callFunc_extern Tryz.prog 63 _ (fun args => ReflectliteValue.unpack (args.getD 0 (.tuple #[]))) Tryz.func63 (by kernel_rfl) (by kernel_rfl) (by kernel_rfl) (by kernel_rfl)
  have hx35 := @run_callFunc_extern Tryz.prog 64 _ (ReflectliteValue.methodAny (ReflectliteValue.valueError "reflectlite.Value.Type" 0) (fun t _ _ _ => ReflectliteType.toType t)) Tryz.func64 (by kernel_rfl) (by kernel_rfl) (by kernel_rfl) (by kernel_rfl)
  have hx36 := @run_callFunc_extern Tryz.prog 65 _ (ReflectliteValue.method (ReflectliteValue.valueError "reflectlite.Value.IsNil" 0) ReflectliteValue.isNil) Tryz.func65 (by kernel_rfl) (by kernel_rfl) (by kernel_rfl) (by kernel_rfl)
  have hx97 := @run_callFunc_extern Tryz.prog 156 _ (ReflectliteType.abiMethod fun t => do pure (.int .u8 (← Rtype.kind t))) Tryz.func156 (by kernel_rfl) (by kernel_rfl) (by kernel_rfl) (by kernel_rfl)
  have hx110 := @run_callFunc_extern Tryz.prog 170 _ (ReflectliteType.method ReflectliteType.elem) Tryz.func170 (by kernel_rfl) (by kernel_rfl) (by kernel_rfl) (by kernel_rfl)
  have hx111 := @run_callFunc_extern Tryz.prog 171 _ (ReflectliteType.relation "Implements" ReflectliteType.implements_) Tryz.func171 (by kernel_rfl) (by kernel_rfl) (by kernel_rfl) (by kernel_rfl)
  have hx49 := @run_callFunc_extern Tryz.prog 100 _ ReflectliteType.typeOf Tryz.func100 (by kernel_rfl) (by kernel_rfl) (by kernel_rfl) (by kernel_rfl)
  have hx108 := @run_callFunc_extern Tryz.prog 168 _ (ReflectliteType.relation "AssignableTo" ReflectliteType.assignableTo) Tryz.func168 (by kernel_rfl) (by kernel_rfl) (by kernel_rfl) (by kernel_rfl)
  have hx50 := @run_callFunc_extern Tryz.prog 101 _ (ReflectliteValue.method (ReflectliteValue.valueError "reflectlite.Value.Elem" 0) ReflectliteValue.elem) Tryz.func101 (by kernel_rfl) (by kernel_rfl) (by kernel_rfl) (by kernel_rfl)
  have hx51 := @run_callFunc_extern Tryz.prog 102 _ ReflectliteValue.set Tryz.func102 (by kernel_rfl) (by kernel_rfl) (by kernel_rfl) (by kernel_rfl)
  have tO := typeOf55
  have mA := methodAssignableTo
  have a25 := assignable55
  have v25 := valueOf55
  have f6 := valueOf56
  have f7 := type56
  have mK := methodKind
  have mE := methodElem
  have mI := methodImplements
  have k27 := kind56
  have k25 := kind55
  have e27 := elem56
  have i25 := implements55
  have n8 := isNil56 ⟨w.heap.size, 0, none⟩ t ((w.alloc (.cells #[.pointer (some t)] 79)).alloc (.cells #[.pointer (some ⟨2, 79, none⟩), .pointer (some ⟨w.heap.size, 0, none⟩), .int .u64 150] 99)) (by simp)
  have hlt : 0 < w.heap.size := by
    rcases Nat.eq_zero_or_pos w.heap.size with h0 | h
    · simp [World.cell?, h0] at hg
    · exact h
  have hg2 : ((w.alloc (.cells #[.pointer (some t)] 79)).alloc (.cells #[.pointer (some ⟨2, 79, none⟩), .pointer (some ⟨w.heap.size, 0, none⟩), .int .u64 150] 99)).cell? ⟨0, 0, none⟩ = some (.iface 132 (.agg #[.pointer (some ⟨2, 27, none⟩)])) := by
    rw [World.cell?_alloc_lt _ _ ⟨0, 0, none⟩ (by simp), World.cell?_alloc_lt _ _ ⟨0, 0, none⟩ hlt]; exact hg
  have htl : t.block < w.heap.size := by
    rcases Nat.lt_or_ge t.block w.heap.size with h | h
    · exact h
    · simp [World.cell?, Array.getElem?_eq_none h] at ht0
  have el := elemV56 ⟨w.heap.size, 0, none⟩ t (((w.alloc (.cells #[.pointer (some t)] 79)).alloc (.cells #[.pointer (some ⟨2, 79, none⟩), .pointer (some ⟨w.heap.size, 0, none⟩), .int .u64 150] 99)).alloc (.cells #[.pointer (some ⟨2, 79, none⟩), .pointer (some ⟨w.heap.size, 0, none⟩), .int .u64 150] 99)) (by rw [World.cell?_alloc_lt _ _ ⟨w.heap.size, 0, none⟩ (by simp; omega)]; simp)
  have st := set55 t ⟨w.heap.size + 1 + 1 + 1, 0, none⟩ e old ((((w.alloc (.cells #[.pointer (some t)] 79)).alloc (.cells #[.pointer (some ⟨2, 79, none⟩), .pointer (some ⟨w.heap.size, 0, none⟩), .int .u64 150] 99)).alloc (.cells #[.pointer (some ⟨2, 79, none⟩), .pointer (some ⟨w.heap.size, 0, none⟩), .int .u64 150] 99)).alloc (.cells #[.pointer (some e)] 78))
    (by rw [World.cell?_alloc_at _ _ _ _ (by simp)]; rfl)
    (by rw [World.cell?_alloc_lt _ _ t (by simp; omega), World.cell?_alloc_lt _ _ t (by simp; omega), World.cell?_alloc_lt _ _ t (by simp; omega), World.cell?_alloc_lt _ _ t htl]; exact ht0)
    (by rw [World.frozen?_alloc_old _ _ t (by simp; omega), World.frozen?_alloc_old _ _ t (by simp; omega), World.frozen?_alloc_old _ _ t (by simp; omega), World.frozen?_alloc_old _ _ t (Nat.ne_of_lt htl)]; exact hf0)
  go_enter Tryz.func44, Tryz.ntmps44
  go_wp2
  refine wp_loop_rounds 1 ?_
  rw [rounds_succ]
  go_wp2
  go_ret
  exact ⟨rfl, rfl⟩
end Go.Proofs.YtemggoaefohliaaGreatDoor.FA
/- errors.As by its contract, as the evaluator takes it. Condition: what the world holds when a call begins ('GL'). -/
namespace Go.Proofs.YtemggoaefohliaaGreatDoor.AE
set_option linter.unusedVariables false
set_option linter.unusedSimpArgs false
open Go Go.RowKit PT

theorem frozen0 {w : World} {b : Nat} {vs : Array Value} {ty : TypeId} (h : w.heap[b]? = some (.cells vs ty (0, 0))) (o : Nat) : w.frozen? ⟨b, o, none⟩ = false := frozen_of_heap h

/-- a store into a box of one cell, behind new blocks -/
theorem Inv.set1 {w0 : World} {B : Nat} {G : Gh} {S : St} {w w3 : World} (hi : Inv w0 B G S w) (hb : Below w.heap.size w w3) {d k : Nat} {ty : TypeId} {old new : AV} {v : Value}
    (hd : S.H[d]? = some ⟨ty, [old]⟩) (hk : G.phi d = some k) (hv : VR G new v) (hc : new.isCell = true) (hs : new.sealed = true) :
    Inv w0 B G { S with H := S.H.set d ⟨ty, [new]⟩ } (w3.setCell ⟨k, 0, none⟩ v) ∧ Ext G w G (w3.setCell ⟨k, 0, none⟩ v) := by
  obtain ⟨hi3, he3⟩ := hi.grow hb
  let F : Fix := { w0 := w0, B := B, Ge := G, we := w, Se := S, cx := ⟨Tryz.prog, fun _ => false, 0⟩, ie := hi }
  have hp : Pre F ⟨fun _ => .junk, fun _ => (0, []), 0, S⟩ G w3 := ⟨hi3, he3, ⟨fun d hd => absurd rfl hd, fun d e k hd => absurd rfl hd⟩⟩
  have h := (store_heap (i := 0) (off := 0) (new := [new]) (cs := [new]) (nv := [v]) hp hd hk (by simp [wrc]) (by simp [AV.sealedL, hs]) (.cons _ _ _ _ hv .nil) (by
    intro x hx
    rw [List.mem_singleton] at hx
    subst hx
    exact hv.one hc) (by
    intro x hx
    rw [List.mem_singleton] at hx
    subst hx
    exact hc)).2.2
  exact ⟨h.inv, h.ext⟩

theorem asX_ok {args : List AV} {S S' : St} {r : Res} (h : asX args S = some (r, S')) :
    (∃ fn, Tryz.prog.funcs[44]? = some fn ∧ (fn.name == "runtime.NumGoroutine") = false ∧ fn.body.isSome = true) ∧
    ∀ (w0 : World) (B : Nat) (G : Gh) (w : World) (vs : Array Value), Inv w0 B G S w → VRL G args vs.toList →
      Calls Tryz.prog 44 vs w fun e w' => ∃ G', Inv w0 B G' S' w' ∧ Ext G w G' w' ∧ G'.nu = G.nu ∧ ResR G' r e := by
  refine ⟨⟨_, Tryz.func44, by decide +kernel, by decide +kernel⟩, fun w0 B G w vs hi hv => ?_⟩
  have hg := GL_below hi.gl hi.below
  unfold asX at h
  split at h
  · rename_i t
    cases h
    obtain ⟨a⟩ := vs
    simp only at hv
    cases hv with
    | cons _ v0 _ m h0 hm =>
      cases hm with
      | cons _ v1 _ m h1 hm =>
        cases hm
        cases h0
        refine (FA.as_nil v1 w).mono fun e w' ⟨he, hw⟩ => ?_
        subst he; subst hw
        exact ⟨G, hi, .refl G _, rfl, VR.bool _⟩
  · rename_i id d
    split at h
    · rename_i c a1 a2 x hb1 hb2
      cases h
      obtain ⟨a⟩ := vs
      simp only at hv
      cases hv with
      | cons _ v0 _ m h0 hm =>
        cases hm with
        | cons _ v1 _ m h1 hm =>
          cases hm
          cases h0 with
          | iface _ _ p0 h0 =>
            cases h1 with
            | iface _ _ p1 h1 =>
              cases h0 with
              | ptr _ _ b0 hp0 =>
                cases h1 with
                | ptr _ _ b1 hp1 =>
                  obtain ⟨b, vs, k1, k2, k3, k4, k5, k6, k7, k8⟩ := hi.box id _ hb1
                  obtain ⟨b', vs', j1, j2, j3, j4, j5, j6, j7, j8⟩ := hi.box d _ hb2
                  rw [hp0] at k1; cases k1
                  rw [hp1] at j1; cases j1
                  have hc : w.cell? ⟨b0, 0, none⟩ = some (.int .i64 c) := by
                    obtain ⟨v, e1, e2⟩ := k4.get (i := 0) rfl
                    cases e2
                    rw [cell_of_heap k3]
                    simpa using e1
                  obtain ⟨old, ho⟩ : ∃ old, w.cell? ⟨b1, 0, none⟩ = some old := by
                    obtain ⟨v, e1, e2⟩ := j4.get (i := 0) rfl
                    exact ⟨v, by rw [cell_of_heap j3]; simpa using e1⟩
                  refine (FA.as_code ⟨b0, 0, none⟩ ⟨b1, 0, none⟩ c old w hg hc ho (frozen0 j3 0)).mono fun e w' ⟨he, hw⟩ => ?_
                  subst he
                  have hbel : Below w.heap.size w (((w.alloc (.cells #[.pointer (some ⟨b1, 0, none⟩)] 77)).alloc (.cells #[.pointer (some ⟨2, 77, none⟩), .pointer (some ⟨w.heap.size, 0, none⟩), .int .u64 150] 99)).alloc (.cells #[.pointer (some ⟨2, 77, none⟩), .pointer (some ⟨w.heap.size, 0, none⟩), .int .u64 150] 99)) :=
                    (((Below.refl _ w).alloc (Nat.le_refl _) _).alloc (by simp) _).alloc (by simp; omega) _
                  obtain ⟨q1, q2⟩ := hi.set1 hbel (ty := 48) (v := .int .i64 c) hb2 hp1 (.int .i64 c) rfl rfl
                  subst hw
                  exact ⟨G, q1, q2, rfl, VR.bool _⟩
    · cases h
  · rename_i id d
    split at h
    · rename_i x hb2
      cases h
      obtain ⟨a⟩ := vs
      simp only at hv
      cases hv with
      | cons _ v0 _ m h0 hm =>
        cases hm with
        | cons _ v1 _ m h1 hm =>
          cases hm
          cases h0 with
          | iface _ _ p0 h0 =>
            cases h1 with
            | iface _ _ p1 h1 =>
              cases h0 with
              | ptr _ _ b0 hp0 =>
                cases h1 with
                | ptr _ _ b1 hp1 =>
                  obtain ⟨b', vs', j1, j2, j3, j4, j5, j6, j7, j8⟩ := hi.box d _ hb2
                  rw [hp1] at j1; cases j1
                  obtain ⟨old, ho⟩ : ∃ old, w.cell? ⟨b1, 0, none⟩ = some old := by
                    obtain ⟨v, e1, e2⟩ := j4.get (i := 0) rfl
                    exact ⟨v, by rw [cell_of_heap j3]; simpa using e1⟩
                  refine (FA.as_fault ⟨b0, 0, none⟩ ⟨b1, 0, none⟩ old w hg ho (frozen0 j3 0)).mono fun e w' ⟨he, hw⟩ => ?_
                  subst he
                  have hbel : Below w.heap.size w ((((w.alloc (.cells #[.pointer (some ⟨b1, 0, none⟩)] 79)).alloc (.cells #[.pointer (some ⟨2, 79, none⟩), .pointer (some ⟨w.heap.size, 0, none⟩), .int .u64 150] 99)).alloc (.cells #[.pointer (some ⟨2, 79, none⟩), .pointer (some ⟨w.heap.size, 0, none⟩), .int .u64 150] 99)).alloc (.cells #[.pointer (some ⟨b0, 0, none⟩)] 78)) :=
                    ((((Below.refl _ w).alloc (Nat.le_refl _) _).alloc (by simp) _).alloc (by simp; omega) _).alloc (by simp; omega) _
                  obtain ⟨q1, q2⟩ := hi.set1 hbel (ty := 78) (v := .pointer (some ⟨b0, 0, none⟩)) hb2 hp1 (.ptr id 0 b0 hp0) rfl rfl
                  subst hw
                  exact ⟨G, q1, q2, rfl, VR.bool _⟩
    · cases h
  · cases h
end Go.Proofs.YtemggoaefohliaaGreatDoor.AE
/- The environment is sound; what a row's list gives of the package variable. No condition. -/
namespace Go.Proofs.YtemggoaefohliaaGreatDoor.PS
set_option linter.unusedVariables false
set_option linter.unusedSimpArgs false
open Go AE EX PT NF LX
set_option maxRecDepth 100000

theorem env : EnvOK Tryz.prog E where
  mixed := by kernel_rfl
  code := fun f fn c hok hf hb => by
    have : f ∈ okL := by simpa [E] using hok
    simp only [okL, List.mem_cons, List.not_mem_nil, or_false] at this
    rcases this with rfl | rfl | rfl | rfl | rfl | rfl | rfl | rfl | rfl | rfl | rfl | rfl | rfl | rfl | rfl | rfl | rfl | rfl | rfl | rfl | rfl | rfl | rfl | rfl | rfl | rfl | rfl | rfl | rfl | rfl | rfl | rfl | rfl | rfl | rfl | rfl | rfl | rfl | rfl | rfl | rfl | rfl | rfl | rfl | rfl | rfl | rfl | rfl | rfl | rfl | rfl | rfl | rfl | rfl | rfl | rfl | rfl | rfl | rfl | rfl | rfl | rfl | rfl | rfl | rfl | rfl | rfl | rfl | rfl | rfl | rfl | rfl | rfl | rfl | rfl | rfl | rfl | rfl | rfl | rfl | rfl | rfl | rfl | rfl | rfl | rfl | rfl | rfl | rfl | rfl | rfl | rfl | rfl | rfl | rfl | rfl | rfl | rfl | rfl | rfl | rfl | rfl | rfl | rfl | rfl | rfl | rfl | rfl | rfl | rfl | rfl | rfl | rfl | rfl | rfl | rfl | rfl | rfl | rfl
    · exact codeOk_body (Tryz.func3.symm.trans hf) hb (by kernel_rfl)
    · exact codeOk_body (Tryz.func4.symm.trans hf) hb (by kernel_rfl)
    · exact codeOk_body (Tryz.func5.symm.trans hf) hb (by kernel_rfl)
    · exact codeOk_body (Tryz.func6.symm.trans hf) hb (by kernel_rfl)
    · exact codeOk_body (Tryz.func7.symm.trans hf) hb (by kernel_rfl)
    · exact codeOk_body (Tryz.func8.symm.trans hf) hb (by kernel_rfl)
    · exact codeOk_body (Tryz.func9.symm.trans hf) hb (by kernel_rfl)
    · exact codeOk_body (Tryz.func10.symm.trans hf) hb (by kernel_rfl)
    · exact codeOk_body (Tryz.func11.symm.trans hf) hb (by kernel_rfl)
    · exact codeOk_body (Tryz.func12.symm.trans hf) hb (by kernel_rfl)
    · exact codeOk_body (Tryz.func13.symm.trans hf) hb (by kernel_rfl)
    · exact codeOk_body (Tryz.func14.symm.trans hf) hb (by kernel_rfl)
    · exact codeOk_body (Tryz.func15.symm.trans hf) hb (by kernel_rfl)
    · exact codeOk_body (Tryz.func16.symm.trans hf) hb (by kernel_rfl)
    · exact codeOk_body (Tryz.func17.symm.trans hf) hb (by kernel_rfl)
    · exact codeOk_body (Tryz.func18.symm.trans hf) hb (by kernel_rfl)
    · exact codeOk_body (Tryz.func19.symm.trans hf) hb (by kernel_rfl)
    · exact codeOk_body (Tryz.func20.symm.trans hf) hb (by kernel_rfl)
    · exact codeOk_body (Tryz.func21.symm.trans hf) hb (by kernel_rfl)
    · exact codeOk_body (Tryz.func22.symm.trans hf) hb (by kernel_rfl)
    · exact codeOk_body (Tryz.func23.symm.trans hf) hb (by kernel_rfl)
    · exact codeOk_body (Tryz.func24.symm.trans hf) hb (by kernel_rfl)
    · exact codeOk_body (Tryz.func25.symm.trans hf) hb (by kernel_rfl)
    · exact codeOk_body (Tryz.func26.symm.trans hf) hb (by kernel_rfl)
    · exact codeOk_body (Tryz.func27.symm.trans hf) hb (by kernel_rfl)
    · exact codeOk_body (Tryz.func28.symm.trans hf) hb (by kernel_rfl)
    · exact codeOk_body (Tryz.func29.symm.trans hf) hb (by kernel_rfl)
    · exact codeOk_body (Tryz.func30.symm.trans hf) hb (by kernel_rfl)
    · exact codeOk_body (Tryz.func31.symm.trans hf) hb (by kernel_rfl)
    · exact codeOk_body (Tryz.func32.symm.trans hf) hb (by kernel_rfl)
    · exact codeOk_body (Tryz.func33.symm.trans hf) hb (by kernel_rfl)
    · exact codeOk_body (Tryz.func34.symm.trans hf) hb (by kernel_rfl)
    · exact codeOk_body (Tryz.func35.symm.trans hf) hb (by kernel_rfl)
    · exact codeOk_body (Tryz.func36.symm.trans hf) hb (by kernel_rfl)
    · exact codeOk_body (Tryz.func37.symm.trans hf) hb (by kernel_rfl)
    · exact codeOk_body (Tryz.func38.symm.trans hf) hb (by kernel_rfl)
    · exact codeOk_body (Tryz.func39.symm.trans hf) hb (by kernel_rfl)
    · exact codeOk_body (Tryz.func40.symm.trans hf) hb (by kernel_rfl)
    · exact codeOk_body (Tryz.func41.symm.trans hf) hb (by kernel_rfl)
    · exact codeOk_body (Tryz.func42.symm.trans hf) hb (by kernel_rfl)
    · exact codeOk_body (Tryz.func43.symm.trans hf) hb (by kernel_rfl)
    · exact codeOk_body (Tryz.func45.symm.trans hf) hb (by kernel_rfl)
    · exact codeOk_body (Tryz.func46.symm.trans hf) hb (by kernel_rfl)
    · exact codeOk_body (Tryz.func47.symm.trans hf) hb (by kernel_rfl)
    · exact codeOk_body (Tryz.func48.symm.trans hf) hb (by kernel_rfl)
    · exact codeOk_body (Tryz.func49.symm.trans hf) hb (by kernel_rfl)
    · exact codeOk_body (Tryz.func50.symm.trans hf) hb (by kernel_rfl)
    · exact codeOk_body (Tryz.func51.symm.trans hf) hb (by kernel_rfl)
    · exact codeOk_body (Tryz.func52.symm.trans hf) hb (by kernel_rfl)
    · exact codeOk_body (Tryz.func53.symm.trans hf) hb (by kernel_rfl)
    · exact codeOk_body (Tryz.func54.symm.trans hf) hb (by kernel_rfl)
    · exact codeOk_body (Tryz.func55.symm.trans hf) hb (by kernel_rfl)
    · exact codeOk_body (Tryz.func56.symm.trans hf) hb (by kernel_rfl)
    · exact codeOk_body (Tryz.func57.symm.trans hf) hb (by kernel_rfl)
    · exact codeOk_body (Tryz.func58.symm.trans hf) hb (by kernel_rfl)
    · exact codeOk_body (Tryz.func59.symm.trans hf) hb (by kernel_rfl)
    · exact codeOk_body (Tryz.func60.symm.trans hf) hb (by kernel_rfl)
    · exact codeOk_body (Tryz.func61.symm.trans hf) hb (by kernel_rfl)
    · exact codeOk_body (Tryz.func68.symm.trans hf) hb (by kernel_rfl)
    · exact codeOk_body (Tryz.func69.symm.trans hf) hb (by kernel_rfl)
    · exact codeOk_body (Tryz.func70.symm.trans hf) hb (by kernel_rfl)
    · exact codeOk_body (Tryz.func71.symm.trans hf) hb (by kernel_rfl)
    · exact codeOk_body (Tryz.func72.symm.trans hf) hb (by kernel_rfl)
    · exact codeOk_body (Tryz.func73.symm.trans hf) hb (by kernel_rfl)
    · exact codeOk_body (Tryz.func74.symm.trans hf) hb (by kernel_rfl)
    · exact codeOk_body (Tryz.func75.symm.trans hf) hb (by kernel_rfl)
    · exact codeOk_body (Tryz.func76.symm.trans hf) hb (by kernel_rfl)
    · exact codeOk_body (Tryz.func77.symm.trans hf) hb (by kernel_rfl)
    · exact codeOk_body (Tryz.func78.symm.trans hf) hb (by kernel_rfl)
    · exact codeOk_body (Tryz.func79.symm.trans hf) hb (by kernel_rfl)
    · exact codeOk_body (Tryz.func80.symm.trans hf) hb (by kernel_rfl)
    · exact codeOk_body (Tryz.func81.symm.trans hf) hb (by kernel_rfl)
    · exact codeOk_body (Tryz.func82.symm.trans hf) hb (by kernel_rfl)
    · exact codeOk_body (Tryz.func83.symm.trans hf) hb (by kernel_rfl)
    · exact codeOk_body (Tryz.func84.symm.trans hf) hb (by kernel_rfl)
    · exact codeOk_body (Tryz.func85.symm.trans hf) hb (by kernel_rfl)
    · exact codeOk_body (Tryz.func86.symm.trans hf) hb (by kernel_rfl)
    · exact codeOk_body (Tryz.func87.symm.trans hf) hb (by kernel_rfl)
    · exact codeOk_body (Tryz.func88.symm.trans hf) hb (by kernel_rfl)
    · exact codeOk_body (Tryz.func89.symm.trans hf) hb (by kernel_rfl)
    · exact codeOk_body (Tryz.func90.symm.trans hf) hb (by kernel_rfl)
    · exact codeOk_body (Tryz.func91.symm.trans hf) hb (by kernel_rfl)
    · exact codeOk_body (Tryz.func92.symm.trans hf) hb (by kernel_rfl)
    · exact codeOk_body (Tryz.func93.symm.trans hf) hb (by kernel_rfl)
    · exact codeOk_body (Tryz.func94.symm.trans hf) hb (by kernel_rfl)
    · exact codeOk_body (Tryz.func95.symm.trans hf) hb (by kernel_rfl)
    · exact codeOk_body (Tryz.func96.symm.trans hf) hb (by kernel_rfl)
    · exact codeOk_body (Tryz.func104.symm.trans hf) hb (by kernel_rfl)
    · exact codeOk_body (Tryz.func105.symm.trans hf) hb (by kernel_rfl)
    · exact codeOk_body (Tryz.func106.symm.trans hf) hb (by kernel_rfl)
    · exact codeOk_body (Tryz.func107.symm.trans hf) hb (by kernel_rfl)
    · exact codeOk_body (Tryz.func108.symm.trans hf) hb (by kernel_rfl)
    · exact codeOk_body (Tryz.func109.symm.trans hf) hb (by kernel_rfl)
    · exact codeOk_body (Tryz.func110.symm.trans hf) hb (by kernel_rfl)
    · exact codeOk_body (Tryz.func111.symm.trans hf) hb (by kernel_rfl)
    · exact codeOk_body (Tryz.func112.symm.trans hf) hb (by kernel_rfl)
    · exact codeOk_body (Tryz.func113.symm.trans hf) hb (by kernel_rfl)
    · exact codeOk_body (Tryz.func114.symm.trans hf) hb (by kernel_rfl)
    · exact codeOk_body (Tryz.func115.symm.trans hf) hb (by kernel_rfl)
    · exact codeOk_body (Tryz.func116.symm.trans hf) hb (by kernel_rfl)
    · exact codeOk_body (Tryz.func120.symm.trans hf) hb (by kernel_rfl)
    · exact codeOk_body (Tryz.func121.symm.trans hf) hb (by kernel_rfl)
    · exact codeOk_body (Tryz.func122.symm.trans hf) hb (by kernel_rfl)
    · exact codeOk_body (Tryz.func123.symm.trans hf) hb (by kernel_rfl)
    · exact codeOk_body (Tryz.func124.symm.trans hf) hb (by kernel_rfl)
    · exact codeOk_body (Tryz.func128.symm.trans hf) hb (by kernel_rfl)
    · exact codeOk_body (Tryz.func129.symm.trans hf) hb (by kernel_rfl)
    · exact codeOk_body (Tryz.func130.symm.trans hf) hb (by kernel_rfl)
    · exact codeOk_body (Tryz.func131.symm.trans hf) hb (by kernel_rfl)
    · exact codeOk_body (Tryz.func132.symm.trans hf) hb (by kernel_rfl)
    · exact codeOk_body (Tryz.func133.symm.trans hf) hb (by kernel_rfl)
    · exact codeOk_body (Tryz.func134.symm.trans hf) hb (by kernel_rfl)
    · exact codeOk_body (Tryz.func135.symm.trans hf) hb (by kernel_rfl)
    · exact codeOk_body (Tryz.func136.symm.trans hf) hb (by kernel_rfl)
    · exact codeOk_body (Tryz.func137.symm.trans hf) hb (by kernel_rfl)
    · exact codeOk_body (Tryz.func138.symm.trans hf) hb (by kernel_rfl)
    · exact codeOk_body (Tryz.func139.symm.trans hf) hb (by kernel_rfl)
    · exact codeOk_body (Tryz.func140.symm.trans hf) hb (by kernel_rfl)
    · exact codeOk_body (Tryz.func141.symm.trans hf) hb (by kernel_rfl)

  ext := fun f args S r S' hok h => by
    have h' : (if f = 67 then indexX args S else if f = 127 then mulX args S else if f = 44 then asX args S else if f = 62 then joinX args S else none) = some (r, S') := h
    split at h'
    · rename_i h1; subst h1; exact indexX_ok h'
    · split at h'
      · rename_i h1; subst h1; exact mulX_ok h'
      · split at h'
        · rename_i h1; subst h1; exact asX_ok h'
        · split at h'
          · rename_i h1; subst h1; exact joinX_ok h'
          · cases h'
/-! ### the package variable -/
theorem own : ownKnob Tryz.prog.godebug = none := by kernel_rfl
theorem laidB : laidOutB Tryz.prog = true := by kernel_rfl
theorem g_et : Tryz.prog.globalNamed "errors.errorType" = some 0 := by kernel_rfl
theorem g_rt : (Tryz.prog.cutTypes.find? (·.1 == "internal/reflectlite.rtype")).map (·.2) = some 132 := by kernel_rfl
theorem g_row : ((List.range 194).filter fun t => Tryz.prog.rowNamed t [101, 114, 114, 111, 114]) = [27] := by kernel_rfl
theorem g_size : Tryz.prog.types.size = 194 := by kernel_rfl
def laidL : List (String × DataW Unit) := [("errors.errorType", Rows.laid_errors_errorType)]
/-- what a row's list gives -/
theorem gl_of_laid {W : World} (h : laidMetH Tryz.prog laidL W) : GL W W.heap.size := by
  have h' : laidMet Tryz.prog [] W ∧ handlesMet Tryz.prog laidL W := h
  obtain ⟨name, u, ty, e1, e2, e3, e4, e5⟩ := h'.2 _ (List.mem_singleton.2 rfl)
  have en : name = [101, 114, 114, 111, 114] := (Option.some.inj e1).symm
  subst en
  obtain rfl := Option.some.inj (g_rt.symm.trans e2)
  have hm : ty ∈ (List.range 194).filter fun t => Tryz.prog.rowNamed t [101, 114, 114, 111, 114] := List.mem_filter.2 ⟨List.mem_range.2 (by rw [← g_size]; exact e3), e4⟩
  rw [g_row] at hm
  obtain rfl := List.mem_singleton.1 hm
  have hh : typeHandle Tryz.prog 27 = .pointer (some ⟨2, 27, none⟩) := by kernel_rfl
  rw [hh] at e5
  have hc : W.cell? ⟨0, 0, none⟩ = some (.iface 132 (.agg #[.pointer (some ⟨2, 27, none⟩)])) := by simpa using World.var?_cell g_et e5 0
  exact ⟨World.block_lt_of_cell? W _ hc, hc⟩
/-- a world that meets the list -/
noncomputable def laidWorld (os : Os) : World :=
  { World.holding Tryz.prog os ⟨#[], #[], []⟩ with heap := (World.holding Tryz.prog os ⟨#[], #[], []⟩).heap.modify 0 fun
      | .cells _ t frozen => .cells #[.iface 132 (.agg #[.pointer (some ⟨2, 27, none⟩)])] t frozen
      | o => o }
theorem laid_met (os : Os) (args : Array Value) : laidMetH Tryz.prog laidL ((laidWorld os).forCall (fun _ _ => 0) ⟨#[], args, []⟩).memory :=
  laidMetH_of_parts (laidMet_nil _ _) (by kernel_rfl)
end Go.Proofs.YtemggoaefohliaaGreatDoor.PS
