/- Joined: CkD, CkE, CkF, CkG, PoT, PoH, PoR, DaA, DaB, DaC, DaD, EvA. No condition beyond those of its lemmas. -/
import Derived.Test.YtcpoinfdnimanaaGreatDoorJfF
import Derived.Test.YtcpoinfdnimanaaGreatDoorJfE
import Derived.Test.YtcpoinfdnimanaaGreatDoorProg
import Derived.WalkKit
import Derived.LaidEql
import Derived.Stop.Asserts
import Derived.RowKitTokens
import Derived.KernelRfl
import Derived.Test.YtcpoinfdnimanaaGreatDoorRows
import Derived.LaidHandle
import Derived.LaidLaws
import Derived.Stop.Joined
/- The reference's Check, evaluated (made by genck.py). No condition. -/
namespace Go.Proofs.YtcpoinfdnimanaaGreatDoor.CK
set_option linter.unusedVariables false
set_option linter.unusedSimpArgs false
open Go AE EX PT
set_option maxRecDepth 100000


set_option maxHeartbeats 4000000 in
theorem fits_text (n : Nat) (hn : 40 ≤ n) (k : Int) (nm : List UInt8) (a lo hi : Int) (ks : AV) (hks : ks.isCell = true) (S : St)
    (hk : k = 3) : FitsOut n k nm a lo hi ks S := by
  unfold FitsOut
  have hp : ev Tryz.prog E (n + 3) 167 [.str nm] S = some (.ret (.bool (plainB nm)), S) := ev_Plain (n + 2) (by omega) nm S
  rw [ev_enter (n := n + 3) (show E.ok 154 = true from rfl) Tryz.func154 (fn := Tryz.f154) rfl (Nat.le_of_ble_eq_true rfl) (by decide +kernel)]
  cases h0 : plainB nm
  · refine ⟨false, ?_, iff_of_false (by simp) fun f => by have := f.text (by omega); rw [h0] at this; cases this⟩
    rw [h0] at hp; subst hk;
      simp (disch := first | (simp only [List.length_append, List.length_cons, List.length_nil]; omega) | (simp; done) | assumption) [AV.cells?, AV.isCell, Tryz.f154, E_esc, k24, c24, a24, k3, c3, a3, k2, c2, a2, k9, c9, a9, fq0, fq1, fq2, fq3, fq4, bq3, bq2, bq9, hks, -AV.isCell, bne, h0, hp]
  rw [h0] at hp
  cases h1 : (a == 0)
  · refine ⟨false, ?_, iff_of_false (by simp) fun f => by have := f.num (by omega) (by omega); subst this; simp at h1⟩
    subst hk;
      simp (disch := first | (simp only [List.length_append, List.length_cons, List.length_nil]; omega) | (simp; done) | assumption) [AV.cells?, AV.isCell, Tryz.f154, E_esc, k24, c24, a24, k3, c3, a3, k2, c2, a2, k9, c9, a9, fq0, fq1, fq2, fq3, fq4, bq3, bq2, bq9, hks, -AV.isCell, bne, h0, hp, h1]
  cases h2 : (lo == 0)
  · refine ⟨false, ?_, iff_of_false (by simp) fun f => by have := (f.zero (by omega)).1; subst this; simp at h2⟩
    subst hk;
      simp (disch := first | (simp only [List.length_append, List.length_cons, List.length_nil]; omega) | (simp; done) | assumption) [AV.cells?, AV.isCell, Tryz.f154, E_esc, k24, c24, a24, k3, c3, a3, k2, c2, a2, k9, c9, a9, fq0, fq1, fq2, fq3, fq4, bq3, bq2, bq9, hks, -AV.isCell, bne, h0, hp, h1, h2]
  refine ⟨hi == 0, ?_, fun h => ?_, fun f => by have := (f.zero (by omega)).2; simp [this]⟩
  · subst hk;
      simp (disch := first | (simp only [List.length_append, List.length_cons, List.length_nil]; omega) | (simp; done) | assumption) [AV.cells?, AV.isCell, Tryz.f154, E_esc, k24, c24, a24, k3, c3, a3, k2, c2, a2, k9, c9, a9, fq0, fq1, fq2, fq3, fq4, bq3, bq2, bq9, hks, -AV.isCell, bne, h0, hp, h1, h2]
  · have e2 : a = 0 := by simpa using h1
    have e3 : lo = 0 := by simpa using h2
    have e4 : hi = 0 := by simpa using h
    exact ⟨fun _ => h0, by omega, fun hh => absurd (.inl hk) hh, by omega, by omega, fun _ _ => e2, by omega, by omega, fun _ => ⟨e3, e4⟩⟩

set_option maxHeartbeats 4000000 in
theorem fits_named (n : Nat) (hn : 40 ≤ n) (k : Int) (nm : List UInt8) (a lo hi : Int) (ks : AV) (hks : ks.isCell = true) (S : St)
    (hk : k = 5 ∨ k = 6 ∨ k = 21) : FitsOut n k nm a lo hi ks S := by
  unfold FitsOut
  have hp : ev Tryz.prog E (n + 3) 28 [.str nm] S = some (.ret (.bool (nameB nm)), S) := ev_Name n (by omega) nm S
  rw [ev_enter (n := n + 3) (show E.ok 154 = true from rfl) Tryz.func154 (fn := Tryz.f154) rfl (Nat.le_of_ble_eq_true rfl) (by decide +kernel)]
  cases h0 : nameB nm
  · refine ⟨false, ?_, iff_of_false (by simp) fun f => by have := f.name (by omega); rw [h0] at this; cases this⟩
    rw [h0] at hp; rcases hk with rfl | rfl | rfl <;>
      simp (disch := first | (simp only [List.length_append, List.length_cons, List.length_nil]; omega) | (simp; done) | assumption) [AV.cells?, AV.isCell, Tryz.f154, E_esc, k24, c24, a24, k3, c3, a3, k2, c2, a2, k9, c9, a9, fq0, fq1, fq2, fq3, fq4, bq3, bq2, bq9, hks, -AV.isCell, bne, h0, hp]
  rw [h0] at hp
  cases h1 : (a == 0)
  · refine ⟨false, ?_, iff_of_false (by simp) fun f => by have := f.num (by omega) (by omega); subst this; simp at h1⟩
    rcases hk with rfl | rfl | rfl <;>
      simp (disch := first | (simp only [List.length_append, List.length_cons, List.length_nil]; omega) | (simp; done) | assumption) [AV.cells?, AV.isCell, Tryz.f154, E_esc, k24, c24, a24, k3, c3, a3, k2, c2, a2, k9, c9, a9, fq0, fq1, fq2, fq3, fq4, bq3, bq2, bq9, hks, -AV.isCell, bne, h0, hp, h1]
  cases h2 : (lo == 0)
  · refine ⟨false, ?_, iff_of_false (by simp) fun f => by have := (f.zero (by omega)).1; subst this; simp at h2⟩
    rcases hk with rfl | rfl | rfl <;>
      simp (disch := first | (simp only [List.length_append, List.length_cons, List.length_nil]; omega) | (simp; done) | assumption) [AV.cells?, AV.isCell, Tryz.f154, E_esc, k24, c24, a24, k3, c3, a3, k2, c2, a2, k9, c9, a9, fq0, fq1, fq2, fq3, fq4, bq3, bq2, bq9, hks, -AV.isCell, bne, h0, hp, h1, h2]
  refine ⟨hi == 0, ?_, fun h => ?_, fun f => by have := (f.zero (by omega)).2; simp [this]⟩
  · rcases hk with rfl | rfl | rfl <;>
      simp (disch := first | (simp only [List.length_append, List.length_cons, List.length_nil]; omega) | (simp; done) | assumption) [AV.cells?, AV.isCell, Tryz.f154, E_esc, k24, c24, a24, k3, c3, a3, k2, c2, a2, k9, c9, a9, fq0, fq1, fq2, fq3, fq4, bq3, bq2, bq9, hks, -AV.isCell, bne, h0, hp, h1, h2]
  · have e2 : a = 0 := by simpa using h1
    have e3 : lo = 0 := by simpa using h2
    have e4 : hi = 0 := by simpa using h
    exact ⟨by omega, fun _ => h0, by omega, by omega, by omega, fun _ _ => e2, by omega, by omega, fun _ => ⟨e3, e4⟩⟩

set_option maxHeartbeats 4000000 in
theorem fits_times (n : Nat) (hn : 40 ≤ n) (k : Int) (nm : List UInt8) (a lo hi : Int) (ks : AV) (hks : ks.isCell = true) (S : St)
    (hk : k = 13) : FitsOut n k nm a lo hi ks S := by
  unfold FitsOut
  have hp : ev Tryz.prog E (n + 3) 28 [.str nm] S = some (.ret (.bool (nameB nm)), S) := ev_Name n (by omega) nm S
  rw [ev_enter (n := n + 3) (show E.ok 154 = true from rfl) Tryz.func154 (fn := Tryz.f154) rfl (Nat.le_of_ble_eq_true rfl) (by decide +kernel)]
  cases h0 : nameB nm
  · refine ⟨false, ?_, iff_of_false (by simp) fun f => by have := f.name (by omega); rw [h0] at this; cases this⟩
    rw [h0] at hp; subst hk;
      simp (disch := first | (simp only [List.length_append, List.length_cons, List.length_nil]; omega) | (simp; done) | assumption) [AV.cells?, AV.isCell, Tryz.f154, E_esc, k24, c24, a24, k3, c3, a3, k2, c2, a2, k9, c9, a9, fq0, fq1, fq2, fq3, fq4, bq3, bq2, bq9, hks, -AV.isCell, bne, h0, hp]
  rw [h0] at hp
  cases h1 : (a == 0)
  · refine ⟨false, ?_, iff_of_false (by simp) fun f => by have := f.num (by omega) (by omega); subst this; simp at h1⟩
    subst hk;
      simp (disch := first | (simp only [List.length_append, List.length_cons, List.length_nil]; omega) | (simp; done) | assumption) [AV.cells?, AV.isCell, Tryz.f154, E_esc, k24, c24, a24, k3, c3, a3, k2, c2, a2, k9, c9, a9, fq0, fq1, fq2, fq3, fq4, bq3, bq2, bq9, hks, -AV.isCell, bne, h0, hp, h1]
  cases h2 : (lo == 0)
  · refine ⟨false, ?_, iff_of_false (by simp) fun f => by have := (f.times hk).1; subst this; simp at h2⟩
    subst hk;
      simp (disch := first | (simp only [List.length_append, List.length_cons, List.length_nil]; omega) | (simp; done) | assumption) [AV.cells?, AV.isCell, Tryz.f154, E_esc, k24, c24, a24, k3, c3, a3, k2, c2, a2, k9, c9, a9, fq0, fq1, fq2, fq3, fq4, bq3, bq2, bq9, hks, -AV.isCell, bne, h0, hp, h1, h2]
  refine ⟨decide (0 ≤ hi), ?_, fun h => ?_, fun f => by have := (f.times hk).2; simp [this]⟩
  · subst hk;
      simp (disch := first | (simp only [List.length_append, List.length_cons, List.length_nil]; omega) | (simp; done) | assumption) [AV.cells?, AV.isCell, Tryz.f154, E_esc, k24, c24, a24, k3, c3, a3, k2, c2, a2, k9, c9, a9, fq0, fq1, fq2, fq3, fq4, bq3, bq2, bq9, hks, -AV.isCell, bne, h0, hp, h1, h2]
  · have e2 : a = 0 := by simpa using h1
    have e3 : lo = 0 := by simpa using h2
    have e4 : 0 ≤ hi := by simpa using h
    exact ⟨by omega, fun _ => h0, by omega, by omega, by omega, fun _ _ => e2, by omega, fun _ => ⟨e3, e4⟩, by omega⟩

set_option maxHeartbeats 4000000 in
theorem fits_int (n : Nat) (hn : 40 ≤ n) (k : Int) (nm : List UInt8) (a lo hi : Int) (ks : AV) (hks : ks.isCell = true) (S : St)
    (hk : k = 1) : FitsOut n k nm a lo hi ks S := by
  unfold FitsOut
  subst hk
  rw [ev_enter (n := n + 3) (show E.ok 154 = true from rfl) Tryz.func154 (fn := Tryz.f154) rfl (Nat.le_of_ble_eq_true rfl) (by decide +kernel)]
  cases h0 : (nm == [])
  · refine ⟨false, ?_, iff_of_false (by simp) fun f => by have := f.none (by omega); subst this; simp at h0⟩
    simp (disch := first | (simp only [List.length_append, List.length_cons, List.length_nil]; omega) | (simp; done) | assumption) [AV.cells?, AV.isCell, Tryz.f154, E_esc, k24, c24, a24, k3, c3, a3, k2, c2, a2, k9, c9, a9, fq0, fq1, fq2, fq3, fq4, bq3, bq2, bq9, hks, -AV.isCell, bne, h0]
  by_cases h1 : a < 0
  · refine ⟨false, ?_, iff_of_false (by simp) fun f => by have := f.int (by omega); omega⟩
    simp (disch := first | (simp only [List.length_append, List.length_cons, List.length_nil]; omega) | (simp; done) | assumption) [AV.cells?, AV.isCell, Tryz.f154, E_esc, k24, c24, a24, k3, c3, a3, k2, c2, a2, k9, c9, a9, fq0, fq1, fq2, fq3, fq4, bq3, bq2, bq9, hks, -AV.isCell, bne, h0, h1]
  cases h2 : (lo == 0)
  · refine ⟨false, ?_, iff_of_false (by simp) fun f => by have := (f.zero (by omega)).1; subst this; simp at h2⟩
    simp (disch := first | (simp only [List.length_append, List.length_cons, List.length_nil]; omega) | (simp; done) | assumption) [AV.cells?, AV.isCell, Tryz.f154, E_esc, k24, c24, a24, k3, c3, a3, k2, c2, a2, k9, c9, a9, fq0, fq1, fq2, fq3, fq4, bq3, bq2, bq9, hks, -AV.isCell, bne, h0, h1, h2]
  refine ⟨hi == 0, ?_, fun h => ?_, fun f => by have := (f.zero (by omega)).2; simp [this]⟩
  · simp (disch := first | (simp only [List.length_append, List.length_cons, List.length_nil]; omega) | (simp; done) | assumption) [AV.cells?, AV.isCell, Tryz.f154, E_esc, k24, c24, a24, k3, c3, a3, k2, c2, a2, k9, c9, a9, fq0, fq1, fq2, fq3, fq4, bq3, bq2, bq9, hks, -AV.isCell, bne, h0, h1, h2]
  · have e1 : nm = [] := by simpa using h0
    have e3 : lo = 0 := by simpa using h2
    have e4 : hi = 0 := by simpa using h
    exact ⟨by omega, by omega, fun _ => e1, fun _ => by omega, by omega, by omega, by omega, by omega, fun _ => ⟨e3, e4⟩⟩

set_option maxHeartbeats 4000000 in
theorem fits_bool (n : Nat) (hn : 40 ≤ n) (k : Int) (nm : List UInt8) (a lo hi : Int) (ks : AV) (hks : ks.isCell = true) (S : St)
    (hk : k = 2) : FitsOut n k nm a lo hi ks S := by
  unfold FitsOut
  subst hk
  rw [ev_enter (n := n + 3) (show E.ok 154 = true from rfl) Tryz.func154 (fn := Tryz.f154) rfl (Nat.le_of_ble_eq_true rfl) (by decide +kernel)]
  cases h0 : (nm == [])
  · refine ⟨false, ?_, iff_of_false (by simp) fun f => by have := f.none (by omega); subst this; simp at h0⟩
    simp (disch := first | (simp only [List.length_append, List.length_cons, List.length_nil]; omega) | (simp; done) | assumption) [AV.cells?, AV.isCell, Tryz.f154, E_esc, k24, c24, a24, k3, c3, a3, k2, c2, a2, k9, c9, a9, fq0, fq1, fq2, fq3, fq4, bq3, bq2, bq9, hks, -AV.isCell, bne, h0]
  by_cases hA : a = 0 ∨ a = 1
  · cases h2 : (lo == 0)
    · refine ⟨false, ?_, iff_of_false (by simp) fun f => by have := (f.zero (by omega)).1; subst this; simp at h2⟩
      rcases hA with rfl | rfl <;> simp (disch := first | (simp only [List.length_append, List.length_cons, List.length_nil]; omega) | (simp; done) | assumption) [AV.cells?, AV.isCell, Tryz.f154, E_esc, k24, c24, a24, k3, c3, a3, k2, c2, a2, k9, c9, a9, fq0, fq1, fq2, fq3, fq4, bq3, bq2, bq9, hks, -AV.isCell, bne, h0, h2]
    refine ⟨hi == 0, ?_, fun h => ?_, fun f => by have := (f.zero (by omega)).2; simp [this]⟩
    · rcases hA with rfl | rfl <;> simp (disch := first | (simp only [List.length_append, List.length_cons, List.length_nil]; omega) | (simp; done) | assumption) [AV.cells?, AV.isCell, Tryz.f154, E_esc, k24, c24, a24, k3, c3, a3, k2, c2, a2, k9, c9, a9, fq0, fq1, fq2, fq3, fq4, bq3, bq2, bq9, hks, -AV.isCell, bne, h0, h2]
    · have e1 : nm = [] := by simpa using h0
      have e3 : lo = 0 := by simpa using h2
      have e4 : hi = 0 := by simpa using h
      exact ⟨by omega, by omega, fun _ => e1, by omega, fun _ => hA, by omega, by omega, by omega, fun _ => ⟨e3, e4⟩⟩
  · refine ⟨false, ?_, iff_of_false (by simp) fun f => by have := f.bool (by omega); omega⟩
    have g0 : (a == 0) = false := by simp; omega
    have g1 : (a == 1) = false := by simp; omega
    simp (disch := first | (simp only [List.length_append, List.length_cons, List.length_nil]; omega) | (simp; done) | assumption) [AV.cells?, AV.isCell, Tryz.f154, E_esc, k24, c24, a24, k3, c3, a3, k2, c2, a2, k9, c9, a9, fq0, fq1, fq2, fq3, fq4, bq3, bq2, bq9, hks, -AV.isCell, bne, h0, g0, g1]

set_option maxHeartbeats 4000000 in
theorem fits_span (n : Nat) (hn : 40 ≤ n) (k : Int) (nm : List UInt8) (a lo hi : Int) (ks : AV) (hks : ks.isCell = true) (S : St)
    (hk : k = 22 ∨ k = 23 ∨ k = 24) : FitsOut n k nm a lo hi ks S := by
  unfold FitsOut
  rw [ev_enter (n := n + 3) (show E.ok 154 = true from rfl) Tryz.func154 (fn := Tryz.f154) rfl (Nat.le_of_ble_eq_true rfl) (by decide +kernel)]
  cases h0 : (nm == [])
  · refine ⟨false, ?_, iff_of_false (by simp) fun f => by have := f.none (by omega); subst this; simp at h0⟩
    rcases hk with rfl | rfl | rfl <;> simp (disch := first | (simp only [List.length_append, List.length_cons, List.length_nil]; omega) | (simp; done) | assumption) [AV.cells?, AV.isCell, Tryz.f154, E_esc, k24, c24, a24, k3, c3, a3, k2, c2, a2, k9, c9, a9, fq0, fq1, fq2, fq3, fq4, bq3, bq2, bq9, hks, -AV.isCell, bne, h0]
  cases h1 : (a == 0)
  · refine ⟨false, ?_, iff_of_false (by simp) fun f => by have := f.num (by omega) (by omega); subst this; simp at h1⟩
    rcases hk with rfl | rfl | rfl <;> simp (disch := first | (simp only [List.length_append, List.length_cons, List.length_nil]; omega) | (simp; done) | assumption) [AV.cells?, AV.isCell, Tryz.f154, E_esc, k24, c24, a24, k3, c3, a3, k2, c2, a2, k9, c9, a9, fq0, fq1, fq2, fq3, fq4, bq3, bq2, bq9, hks, -AV.isCell, bne, h0, h1]
  have e1 : nm = [] := by simpa using h0
  have e2 : a = 0 := by simpa using h1
  by_cases h2 : 0 ≤ lo
  · cases h3 : (hi == -1)
    · refine ⟨decide (lo ≤ hi), ?_, fun h => ?_, fun f => by have := (f.span hk).2; simp at h3; simp; omega⟩
      · rcases hk with rfl | rfl | rfl <;> simp (disch := first | (simp only [List.length_append, List.length_cons, List.length_nil]; omega) | (simp; done) | assumption) [AV.cells?, AV.isCell, Tryz.f154, E_esc, k24, c24, a24, k3, c3, a3, k2, c2, a2, k9, c9, a9, fq0, fq1, fq2, fq3, fq4, bq3, bq2, bq9, hks, -AV.isCell, bne, h0, h1, h2, h3]
      · have e4 : lo ≤ hi := by simpa using h
        exact ⟨by omega, by omega, fun _ => e1, by omega, by omega, fun _ _ => e2, fun _ => ⟨h2, .inr e4⟩, by omega, by omega⟩
    · refine ⟨true, ?_, fun h => ?_, fun _ => rfl⟩
      · rcases hk with rfl | rfl | rfl <;> simp (disch := first | (simp only [List.length_append, List.length_cons, List.length_nil]; omega) | (simp; done) | assumption) [AV.cells?, AV.isCell, Tryz.f154, E_esc, k24, c24, a24, k3, c3, a3, k2, c2, a2, k9, c9, a9, fq0, fq1, fq2, fq3, fq4, bq3, bq2, bq9, hks, -AV.isCell, bne, h0, h1, h2, h3]
      · have e4 : hi = -1 := by simpa using h3
        exact ⟨by omega, by omega, fun _ => e1, by omega, by omega, fun _ _ => e2, fun _ => ⟨h2, .inl e4⟩, by omega, by omega⟩
  · refine ⟨false, ?_, iff_of_false (by simp) fun f => by have := (f.span hk).1; omega⟩
    rcases hk with rfl | rfl | rfl <;> simp (disch := first | (simp only [List.length_append, List.length_cons, List.length_nil]; omega) | (simp; done) | assumption) [AV.cells?, AV.isCell, Tryz.f154, E_esc, k24, c24, a24, k3, c3, a3, k2, c2, a2, k9, c9, a9, fq0, fq1, fq2, fq3, fq4, bq3, bq2, bq9, hks, -AV.isCell, bne, h0, h1, h2]

theorem ev_fits (n : Nat) (hn : 44 ≤ n) (k : Int) (nm : List UInt8) (a lo hi : Int) (ks : AV) (hks : ks.isCell = true) (hk : kinds k) (S : St) :
    ∃ b, ev Tryz.prog E n 154 [.agg [.int .i64 k, .str nm, .int .i64 a, .int .i64 lo, .int .i64 hi, ks]] S = some (.ret (.bool b), S) ∧ (b = true ↔ Fits k nm a lo hi) := by
  obtain ⟨n, rfl⟩ : ∃ m, n = m + 4 := ⟨n - 4, by omega⟩
  have hk' := (kinds_iff k).1 hk
  by_cases c1 : k = 1
  · exact fits_int n (by omega) k nm a lo hi ks hks S c1
  by_cases c2 : k = 2
  · exact fits_bool n (by omega) k nm a lo hi ks hks S c2
  by_cases c3 : k = 3
  · exact fits_text n (by omega) k nm a lo hi ks hks S c3
  by_cases c4 : k = 5 ∨ k = 6 ∨ k = 21
  · exact fits_named n (by omega) k nm a lo hi ks hks S c4
  by_cases c5 : k = 13
  · exact fits_times n (by omega) k nm a lo hi ks hks S c5
  by_cases c6 : k = 22 ∨ k = 23 ∨ k = 24
  · exact fits_span n (by omega) k nm a lo hi ks hks S c6
  exact fits_plain n (by omega) k nm a lo hi ks hks S (by omega)
end Go.Proofs.YtcpoinfdnimanaaGreatDoor.CK
/- The reference's Check, evaluated (made by genck.py). No condition. -/
namespace Go.Proofs.YtcpoinfdnimanaaGreatDoor.CK
set_option linter.unusedVariables false
set_option linter.unusedSimpArgs false
open Go AE EX PT
set_option maxRecDepth 100000


noncomputable def sLoop : Code := cutC (bodyOf Tryz.f153) [1, 1, 0, 1, 0, 0]
noncomputable def sl0 : Code := cutC (bodyOf Tryz.f153) [0]
noncomputable def sl1 : Code := cutC (bodyOf Tryz.f153) [1, 0]
noncomputable def sl2 : Code := cutC (bodyOf Tryz.f153) [1, 1, 0, 0]
noncomputable def sl3 : Code := cutC (bodyOf Tryz.f153) [1, 1, 1]
theorem f35b : Tryz.f153.body = some (.seq sl0 (.seq sl1 (.seq (.seq sl2 (.block 0 (.loop sLoop))) sl3))) := rfl

set_option maxHeartbeats 4000000 in
theorem set_round (n : Nat) (hn : 40 ≤ n) (c0 c1' c2' c3' c4' : AV) (tk : Bool) (kids : List X) (S0 : St) (hs : kids.length ≤ 8) (m : Nat) (fs : FS) (h : SI n [c0, c1', c2', c3', c4', .slice (embL kids) (tokOf tk)] kids S0 m fs) :
    ∃ o fs', evCode ⟨Tryz.prog, E.esc 153, n⟩ (ev Tryz.prog E n) (E.ps 153) n sLoop fs = some (o, fs') ∧
      ((o = .norm ∧ ∃ m', m' < m ∧ SI n [c0, c1', c2', c3', c4', .slice (embL kids) (tokOf tk)] kids S0 m' fs') ∨ (o ≠ .norm ∧ SQ kids S0 (o, fs'))) := by
  obtain ⟨t, b, v, S⟩ := fs
  obtain ⟨i, hi, h1, h2, h3, h4, h5⟩ := h
  simp only at h1 h2 h3 h4
  subst h4
  have hlen : (embL kids).length = kids.length := by rw [embL_map]; simp
  cases m with
  | zero =>
    have hi : i = kids.length := by omega
    subst hi
    refine ⟨.exit 0, _, by
      simp (disch := first | (simp only [List.length_append, List.length_cons, List.length_nil]; omega) | (simp; done) | assumption) [AV.cells?, AV.isCell, sLoop, cutC, bodyOf, Tryz.f153, h1, h2, h3, fq5, k22, c22, a22, sq22, bq3, hlen]
      rfl, .inr ⟨by simp, rfl, .inl ⟨rfl, h5⟩⟩⟩
  | succ m =>
    have hlt : i < kids.length := by omega
    have hltz : (i : Int) < kids.length := by omega
    have hxe : kids[i]? = some kids[i] := List.getElem?_eq_getElem hlt
    have htake : kids.take (i + 1) = kids.take i ++ [kids[i]] := by rw [List.take_add_one, hxe]; rfl
    have hemb : (embL kids)[i]? = some kids[i].emb := by rw [embL_map, List.getElem?_map, hxe]; rfl
    have hw : IntKind.i64.wrap ((i : Int) + 1) = (i : Int) + 1 := wrap64 _ (by omega)
    have hp := ev_Plain (n - 1) (by omega)
    rw [show n - 1 + 1 = n by omega] at hp
    have hps : E.ps 153 9 = [(4, 6), (4, 11)] := rfl
    obtain ⟨z, hz⟩ := ii24
    generalize kids[i] = x at *
    obtain ⟨k, nm, a, lo, hi', tk', ks⟩ := x
    have hp := hp nm S
    have hks : ((embL ks).length : Int) = ks.length := by rw [embL_map]; simp
    have hks' : (embL ks).length = ks.length := by rw [embL_map]; simp
    simp only [X.emb] at hemb
    cases g0 : (k == 3)
    · refine ⟨.ret, _, by
        simp (disch := first | (simp only [List.length_append, List.length_cons, List.length_nil]; omega) | (simp; done) | assumption) [AV.cells?, AV.isCell, sLoop, cutC, bodyOf, Tryz.f153, E_esc, h1, h2, h3, fq0, fq1, fq2, fq3, fq4, fq5, k22, c22, a22, k24, c24, a24, k3, c3, a3, k2, c2, a2, k9, c9, a9, z24, i24, hz, sq22, bq3, bq2, hlen, hlt, hltz, hemb, bne, g0]
        rfl, .inr ⟨by simp, rfl, .inr ⟨rfl, by simp [upd], i, hlt, fun ⟨_, _, he, hp', _⟩ => by rw [hxe] at he; cases he; simp at g0⟩⟩⟩
    cases g1 : decide ((0 : Int) < ks.length)
    rotate_left 1
    · have g1' : 0 < ks.length := by simpa using g1
      refine ⟨.ret, _, by
        simp (disch := first | (simp only [List.length_append, List.length_cons, List.length_nil]; omega) | (simp; done) | assumption) [AV.cells?, AV.isCell, sLoop, cutC, bodyOf, Tryz.f153, E_esc, h1, h2, h3, fq0, fq1, fq2, fq3, fq4, fq5, k22, c22, a22, k24, c24, a24, k3, c3, a3, k2, c2, a2, k9, c9, a9, z24, i24, hz, sq22, bq3, bq2, hlen, hlt, hltz, hemb, bne, g0, hks, hks', g1']
        rfl, .inr ⟨by simp, rfl, .inr ⟨rfl, by simp [upd], i, hlt, fun ⟨_, _, he, hp', _⟩ => by rw [hxe] at he; cases he; simp at g1'⟩⟩⟩
    have g1' : ks = [] := by
      cases ks with
      | nil => rfl
      | cons y l => simp at g1
    subst g1'
    simp only [embL] at hemb
    cases g2 : (a == 0)
    · refine ⟨.ret, _, by
        simp (disch := first | (simp only [List.length_append, List.length_cons, List.length_nil]; omega) | (simp; done) | assumption) [AV.cells?, AV.isCell, sLoop, cutC, bodyOf, Tryz.f153, E_esc, h1, h2, h3, fq0, fq1, fq2, fq3, fq4, fq5, k22, c22, a22, k24, c24, a24, k3, c3, a3, k2, c2, a2, k9, c9, a9, z24, i24, hz, sq22, bq3, bq2, hlen, hlt, hltz, hemb, bne, g0, g2]
        rfl, .inr ⟨by simp, rfl, .inr ⟨rfl, by simp [upd], i, hlt, fun ⟨_, _, he, hp', _⟩ => by rw [hxe] at he; cases he; simp at g2⟩⟩⟩
    cases g3 : (lo == 0)
    · refine ⟨.ret, _, by
        simp (disch := first | (simp only [List.length_append, List.length_cons, List.length_nil]; omega) | (simp; done) | assumption) [AV.cells?, AV.isCell, sLoop, cutC, bodyOf, Tryz.f153, E_esc, h1, h2, h3, fq0, fq1, fq2, fq3, fq4, fq5, k22, c22, a22, k24, c24, a24, k3, c3, a3, k2, c2, a2, k9, c9, a9, z24, i24, hz, sq22, bq3, bq2, hlen, hlt, hltz, hemb, bne, g0, g2, g3]
        rfl, .inr ⟨by simp, rfl, .inr ⟨rfl, by simp [upd], i, hlt, fun ⟨_, _, he, hp', _⟩ => by rw [hxe] at he; cases he; simp at g3⟩⟩⟩
    cases g4 : (hi' == 0)
    · refine ⟨.ret, _, by
        simp (disch := first | (simp only [List.length_append, List.length_cons, List.length_nil]; omega) | (simp; done) | assumption) [AV.cells?, AV.isCell, sLoop, cutC, bodyOf, Tryz.f153, E_esc, h1, h2, h3, fq0, fq1, fq2, fq3, fq4, fq5, k22, c22, a22, k24, c24, a24, k3, c3, a3, k2, c2, a2, k9, c9, a9, z24, i24, hz, sq22, bq3, bq2, hlen, hlt, hltz, hemb, bne, g0, g2, g3, g4]
        rfl, .inr ⟨by simp, rfl, .inr ⟨rfl, by simp [upd], i, hlt, fun ⟨_, _, he, hp', _⟩ => by rw [hxe] at he; cases he; simp at g4⟩⟩⟩
    cases g5 : plainB nm
    · rw [g5] at hp
      refine ⟨.ret, _, by
        simp (disch := first | (simp only [List.length_append, List.length_cons, List.length_nil]; omega) | (simp; done) | assumption) [AV.cells?, AV.isCell, sLoop, cutC, bodyOf, Tryz.f153, E_esc, h1, h2, h3, fq0, fq1, fq2, fq3, fq4, fq5, k22, c22, a22, k24, c24, a24, k3, c3, a3, k2, c2, a2, k9, c9, a9, z24, i24, hz, sq22, bq3, bq2, hlen, hlt, hltz, hemb, bne, g0, g2, g3, g4, hp]
        rfl, .inr ⟨by simp, rfl, .inr ⟨rfl, by simp [upd], i, hlt, fun ⟨_, _, he, hp', _⟩ => by rw [hxe] at he; cases he; rw [g5] at hp'; cases hp'⟩⟩⟩
    rw [g5] at hp
    have e0 : k = 3 := by simpa using g0
    have e2 : a = 0 := by simpa using g2
    have e3 : lo = 0 := by simpa using g3
    have e4 : hi' = 0 := by simpa using g4
    subst e0 e2 e3 e4
    have good : (0 < i → ∀ y, kids[i - 1]? = some y → (Op.bytesLess nm y.nm || nm == y.nm) = false) → ∀ j, j < i + 1 → kidOK kids j := fun hr j hj => by
      by_cases hji : j = i
      · subst hji; exact ⟨nm, tk', hxe, g5, hr⟩
      · exact h5 j (by omega)
    by_cases h0 : i = 0
    · subst h0
      refine ⟨.norm, _, by
        simp (disch := first | (simp only [List.length_append, List.length_cons, List.length_nil]; omega) | (simp; done) | assumption) [AV.cells?, AV.isCell, sLoop, cutC, bodyOf, Tryz.f153, E_esc, h1, h2, h3, fq0, fq1, fq2, fq3, fq4, fq5, k22, c22, a22, k24, c24, a24, k3, c3, a3, k2, c2, a2, k9, c9, a9, z24, i24, hz, sq22, bq3, bq2, bq9, hlen, hlt, hltz, hemb, bne, hp, hps]
        rfl, .inl ⟨rfl, m, by omega, 1, by omega, by simp [upd, h1], by simp [upd, h2], by simp [upd, wrap64 1 (by omega)], rfl, good (fun h => absurd h (Nat.lt_irrefl 0))⟩⟩
    · have hpos : (0 : Int) < i := by omega
      have hpos' : 0 < i := by omega
      have hw2 : IntKind.i64.wrap ((i : Int) - 1) = ((i - 1 : Nat) : Int) := by rw [wrap64 _ (by omega)]; omega
      have hye : kids[i - 1]? = some kids[i - 1] := List.getElem?_eq_getElem (by omega)
      have hemb2 : (embL kids)[i - 1]? = some kids[i - 1].emb := by rw [embL_map, List.getElem?_map, hye]; rfl
      generalize kids[i - 1] = y at *
      obtain ⟨kk, nm2, aa, lo2, hi2, tk2, ks2⟩ := y
      simp only [X.emb] at hemb2
      cases g6 : (Op.bytesLess nm nm2 || nm == nm2)
      · refine ⟨.norm, _, by
          simp (disch := first | (simp only [List.length_append, List.length_cons, List.length_nil]; omega) | (simp; done) | assumption) [AV.cells?, AV.isCell, sLoop, cutC, bodyOf, Tryz.f153, E_esc, h1, h2, h3, fq0, fq1, fq2, fq3, fq4, fq5, k22, c22, a22, k24, c24, a24, k3, c3, a3, k2, c2, a2, k9, c9, a9, z24, i24, hz, sq22, bq3, bq2, bq9, hlen, hlt, hltz, hemb, bne, hp, hps, hpos, hpos', hw2, hemb2, g6, -Bool.or_eq_true, -Bool.or_eq_false_iff]
          rfl, .inl ⟨rfl, m, by omega, i + 1, by omega, by simp [upd, h1], by simp [upd, h2], by simp [upd, hw], rfl, good fun _ y hy => by rw [hye] at hy; cases hy; exact g6⟩⟩
      · refine ⟨.ret, _, by
          simp (disch := first | (simp only [List.length_append, List.length_cons, List.length_nil]; omega) | (simp; done) | assumption) [AV.cells?, AV.isCell, sLoop, cutC, bodyOf, Tryz.f153, E_esc, h1, h2, h3, fq0, fq1, fq2, fq3, fq4, fq5, k22, c22, a22, k24, c24, a24, k3, c3, a3, k2, c2, a2, k9, c9, a9, z24, i24, hz, sq22, bq3, bq2, bq9, hlen, hlt, hltz, hemb, bne, hp, hps, hpos, hpos', hw2, hemb2, g6, -Bool.or_eq_true, -Bool.or_eq_false_iff]
          rfl, .inr ⟨by simp, rfl, .inr ⟨rfl, by simp [upd], i, hlt, fun ⟨_, _, he, _, hr⟩ => by rw [hxe] at he; cases he; have := hr hpos' _ hye; simp only [X.nm] at this; rw [g6] at this; cases this⟩⟩⟩
end Go.Proofs.YtcpoinfdnimanaaGreatDoor.CK
/- The reference's Check, evaluated (made by genck.py). No condition. -/
namespace Go.Proofs.YtcpoinfdnimanaaGreatDoor.CK
set_option linter.unusedVariables false
set_option linter.unusedSimpArgs false
open Go AE EX PT
set_option maxRecDepth 100000


theorem ev_set (n : Nat) (hn : 40 ≤ n) (k : Int) (nm : List UInt8) (a lo hi : Int) (tk : Bool) (kids : List X) (S : St) :
    ∃ b, ev Tryz.prog E (n + 1) 153 [.agg [.int .i64 k, .str nm, .int .i64 a, .int .i64 lo, .int .i64 hi, .slice (embL kids) (tokOf tk)]] S = some (.ret (.bool b), S) ∧ (b = true ↔ SetOK kids) := by
  rw [ev_enter (n := n) (show E.ok 153 = true from rfl) Tryz.func153 f35b (Nat.le_of_ble_eq_true rfl) (by decide +kernel)]
  have hlen : (embL kids).length = kids.length := by rw [embL_map]; simp
  by_cases hs : kids.length ≤ 8
  · have h8 : ¬ (8 : Int) < kids.length := by omega
    have h8' : ¬ 8 < kids.length := by omega
    have key : ∀ fs, SI n [.int .i64 k, .str nm, .int .i64 a, .int .i64 lo, .int .i64 hi, .slice (embL kids) (tokOf tk)] kids S kids.length fs → ∃ r, iter n (evCode ⟨Tryz.prog, E.esc 153, n⟩ (ev Tryz.prog E n) (E.ps 153) n sLoop) fs = some r ∧ SQ kids S r := fun fs h =>
      iter_meas (fun m fs h => set_round n hn _ _ _ _ _ tk kids S hs m fs h) kids.length n fs (by omega) h
    obtain ⟨F, hF⟩ := skolemR key
    have hF1 := fun x h => (hF x h).1
    obtain ⟨⟨o, t, b, v, S'⟩, hr, hS, hq⟩ := key ⟨upd 3 (.int .i64 0) (upd 8 (.bool false) (upd 7 (.int .i64 kids.length) (upd 6 (.slice (embL kids) (tokOf tk)) (upd 5 (.loc n 1 1 5) (upd 2 (.bool false) (upd 1 (.loc n 1 1 0) (argsA [.agg [.int .i64 k, .str nm, .int .i64 a, .int .i64 lo, .int .i64 hi, .slice (embL kids) (tokOf tk)]]))))))),
      upd 1 (1, [.int .i64 k, .str nm, .int .i64 a, .int .i64 lo, .int .i64 hi, .slice (embL kids) (tokOf tk)]) (fun _ => (0, [])), 7, S⟩
      ⟨0, by omega, by simp [upd], by simp [upd], by simp [upd], rfl, by simp⟩
    simp only at hS hq
    subst hS
    rcases hq with ⟨rfl, ha⟩ | ⟨rfl, h2, j, hj, hno⟩
    · refine ⟨true, ?_, fun _ => ⟨hs, ha⟩, fun _ => rfl⟩
      simp (disch := first | (simp only [List.length_append, List.length_cons, List.length_nil]; omega) | (simp; done) | assumption) [AV.cells?, AV.isCell, sl0, sl1, sl2, sl3, cutC, bodyOf, Tryz.f153, E_esc, fq5, k22, c22, a22, sq22, bq3, hlen, h8, h8', hr]
    · refine ⟨false, ?_, iff_of_false (by simp) fun f => hno (f.2 j hj)⟩
      simp (disch := first | (simp only [List.length_append, List.length_cons, List.length_nil]; omega) | (simp; done) | assumption) [AV.cells?, AV.isCell, sl0, sl1, sl2, sl3, cutC, bodyOf, Tryz.f153, E_esc, fq5, k22, c22, a22, sq22, bq3, hlen, h8, h8', hr, h2]
  · have h8 : (8 : Int) < kids.length := by omega
    have h8' : 8 < kids.length := by omega
    refine ⟨false, ?_, iff_of_false (by simp) fun f => hs f.1⟩
    simp (disch := first | (simp only [List.length_append, List.length_cons, List.length_nil]; omega) | (simp; done) | assumption) [AV.cells?, AV.isCell, sl0, sl1, sl2, sl3, cutC, bodyOf, Tryz.f153, E_esc, fq5, k22, c22, a22, sq22, bq3, hlen, h8, h8']

/-! ### how deep -/
noncomputable def dpLoop : Code := cutC (bodyOf Tryz.f151) [1, 1, 1, 0, 1, 0, 0]
noncomputable def dp0 : Code := cutC (bodyOf Tryz.f151) [0]
noncomputable def dp1 : Code := cutC (bodyOf Tryz.f151) [1, 0]
noncomputable def dp2 : Code := cutC (bodyOf Tryz.f151) [1, 1, 0]
noncomputable def dp3 : Code := cutC (bodyOf Tryz.f151) [1, 1, 1, 0, 0]
noncomputable def dp4 : Code := cutC (bodyOf Tryz.f151) [1, 1, 1, 1]
theorem f32b : Tryz.f151.body = some (.seq dp0 (.seq dp1 (.seq dp2 (.seq (.seq dp3 (.block 0 (.loop dpLoop))) dp4)))) := rfl

theorem dep_round (n : Nat) (c0 c1' c2' c3' c4' : AV) (tk : Bool) (kids : List X) (S0 : St) (hs : kids.length ≤ 1099511627776)
    (hrec : ∀ x ∈ kids, ∀ S, ev Tryz.prog E n 151 [x.emb] S = some (.ret (.int .i64 x.dep), S)) (i : Nat) (hi : i < kids.length) (fs : FS) (h : DPI n [c0, c1', c2', c3', c4', .slice (embL kids) (tokOf tk)] kids S0 i fs) :
    ∃ fs', evCode ⟨Tryz.prog, E.esc 151, n⟩ (ev Tryz.prog E n) (E.ps 151) n dpLoop fs = some (.norm, fs') ∧ DPI n [c0, c1', c2', c3', c4', .slice (embL kids) (tokOf tk)] kids S0 (i + 1) fs' := by
  obtain ⟨t, b, v, S⟩ := fs
  obtain ⟨h1, h2, h3, h4, h5⟩ := h
  simp only at h1 h2 h3 h4 h5
  subst h5
  have hlen : (embL kids).length = kids.length := by rw [embL_map]; simp
  have hltz : (i : Int) < kids.length := by omega
  have hxe : kids[i]? = some kids[i] := List.getElem?_eq_getElem hi
  have hr := hrec kids[i] (List.getElem_mem hi) S
  have hsplit : kids.take (i + 1) = kids.take i ++ [kids[i]] := by rw [List.take_add_one, hxe]; rfl
  have hd : depF (kids.take (i + 1)) = if depF (kids.take i) < kids[i].dep then kids[i].dep else depF (kids.take i) := by rw [hsplit, depF_snoc]
  have hemb : (embL kids)[i]? = some kids[i].emb := by rw [embL_map, List.getElem?_map, hxe]; rfl
  have ha1 := cells_all kids[i]
  have hc1 := (cells_ok kids[i]).2
  have ht1 : List.take 6 kids[i].cells = kids[i].cells := List.take_of_length_le (by omega)
  rw [emb_cells] at hemb hr
  generalize kids[i].dep = d at *
  generalize kids[i].cells = C1 at *
  generalize depF (kids.take i) = e at *
  have hw : IntKind.i64.wrap ((i : Int) + 1) = (i : Int) + 1 := wrap64 _ (by omega)
  obtain ⟨z, hz⟩ := ii24
  by_cases hlt : e < d
  · have hltz' : (e : Int) < d := by omega
    refine ⟨_, by
      simp (disch := first | (simp only [List.length_append, List.length_cons, List.length_nil]; omega) | (simp; done) | assumption) [AV.cells?, AV.isCell, dpLoop, cutC, bodyOf, Tryz.f151, E_esc, h1, h2, h3, h4, fq5, k22, c22, a22, k24, c24, a24, i24, hz, sq22, bq3, hlen, hi, hltz, hemb, hr, ha1, hc1, ht1, hlt, hltz']
      rfl, by simp [upd, h1], by simp [upd, h2], by simp [upd, hw], by rw [hd, if_pos hlt]; simp [upd], rfl⟩
  · have hltz' : ¬ (e : Int) < d := by omega
    refine ⟨_, by
      simp (disch := first | (simp only [List.length_append, List.length_cons, List.length_nil]; omega) | (simp; done) | assumption) [AV.cells?, AV.isCell, dpLoop, cutC, bodyOf, Tryz.f151, E_esc, h1, h2, h3, h4, fq5, k22, c22, a22, k24, c24, a24, i24, hz, sq22, bq3, hlen, hi, hltz, hemb, hr, ha1, hc1, ht1, hlt, hltz']
      rfl, by simp [upd, h1], by simp [upd, h2], by simp [upd, hw], by rw [hd, if_neg hlt]; simp [upd, h4], rfl⟩

theorem ev_Depth : ∀ (m : Nat) (x : X), x.size ≤ m → m ≤ 1048576 → ∀ n, m + 2 ≤ n → ∀ S, ev Tryz.prog E n 151 [x.emb] S = some (.ret (.int .i64 x.dep), S)
  | 0, x, hm, _, _, _, _ => absurd hm (by have := size_pos x; omega)
  | m + 1, x, hm, hmm, n, hn, S => by
    obtain ⟨n, rfl⟩ : ∃ k, n = k + 1 := ⟨n - 1, by omega⟩
    have hds := dep_size x
    obtain ⟨k, nm, a, lo, hi, tk, kids⟩ := x
    simp only [X.size] at hm hds
    have hl := sizeL_length kids
    have hlen : (embL kids).length = kids.length := by rw [embL_map]; simp
    simp only [X.emb]
    rw [ev_enter (n := n) (show E.ok 151 = true from rfl) Tryz.func151 f32b (Nat.le_of_ble_eq_true rfl) (by decide +kernel)]
    cases h4 : k == 4
    · have key : ∀ fs, DPI n [.int .i64 k, .str nm, .int .i64 a, .int .i64 lo, .int .i64 hi, .slice (embL kids) (tokOf tk)] kids S 0 fs → ∃ fs', iter n (evCode ⟨Tryz.prog, E.esc 151, n⟩ (ev Tryz.prog E n) (E.ps 151) n dpLoop) fs = some (.exit 0, fs') ∧
          DPI n [.int .i64 k, .str nm, .int .i64 a, .int .i64 lo, .int .i64 hi, .slice (embL kids) (tokOf tk)] kids S kids.length fs' := fun fs h => by
        obtain ⟨⟨o, fs'⟩, r1, r2, r3⟩ := iter_range (Q := fun r => r.1 = .exit 0 ∧ DPI n [.int .i64 k, .str nm, .int .i64 a, .int .i64 lo, .int .i64 hi, .slice (embL kids) (tokOf tk)] kids S kids.length r.2) (len := kids.length)
          (fun i hi' fs h => dep_round n _ _ _ _ _ tk kids S (by omega) (fun x hx S => ev_Depth m x (by have := sizeL_mem hx; omega) (by omega) n (by omega) S) i hi' fs h)
          (fun fs h => by
            obtain ⟨t, b, v, S'⟩ := fs
            obtain ⟨h1, h2, h3, h4, h5⟩ := h
            simp only at h1 h2 h3 h4 h5
            refine ⟨.exit 0, _, by
              simp (disch := first | (simp only [List.length_append, List.length_cons, List.length_nil]; omega) | (simp; done) | assumption) [AV.cells?, AV.isCell, dpLoop, cutC, bodyOf, Tryz.f151, h1, h2, h3, fq5, k22, c22, a22, bq3, sq22, hlen]
              rfl, by simp, rfl, by simp [upd, h1], by simp [upd, h2], by simp [upd, h3], by simp [upd, h4], h5⟩) kids.length 0 n fs (by omega) (by omega) h
        simp only at r2
        subst r2
        exact ⟨fs', r1, r3⟩
      obtain ⟨⟨t, b, v, S'⟩, hr, g1, g2, g3, g4, g5⟩ := key ⟨upd 4 (.int .i64 0) (upd 3 (.int .i64 0) (upd 8 (.bool false) (upd 7 (.int .i64 k) (upd 6 (.loc n 1 1 0) (upd 2 (.int .i64 0) (upd 1 (.loc n 1 1 0) (argsA [.agg [.int .i64 k, .str nm, .int .i64 a, .int .i64 lo, .int .i64 hi, .slice (embL kids) (tokOf tk)]]))))))),
        upd 1 (1, [.int .i64 k, .str nm, .int .i64 a, .int .i64 lo, .int .i64 hi, .slice (embL kids) (tokOf tk)]) (fun _ => (0, [])), 7, S⟩
        ⟨by simp [upd], by simp [upd], by simp [upd], by simp [upd, depF], rfl⟩
      simp only at g1 g2 g3 g4 g5
      subst g5
      rw [List.take_length, depF_eq] at g4
      have w1 : IntKind.i64.wrap ((depL kids : Int) + 1) = (depL kids : Int) + 1 := wrap64 _ (by have := depL_size kids; omega)
      simp (disch := first | (simp only [List.length_append, List.length_cons, List.length_nil]; omega) | (simp; done) | assumption) [AV.cells?, AV.isCell, dp0, dp1, dp2, dp3, dp4, cutC, bodyOf, Tryz.f151, E_esc, k3, c3, a3, fq0, bq3, h4, hr, g4, w1, X.dep]
    · simp (disch := first | (simp only [List.length_append, List.length_cons, List.length_nil]; omega) | (simp; done) | assumption) [AV.cells?, AV.isCell, dp0, dp1, dp2, dp3, dp4, cutC, bodyOf, Tryz.f151, E_esc, k3, c3, a3, fq0, bq3, h4, X.dep]
end Go.Proofs.YtcpoinfdnimanaaGreatDoor.CK
/- The reference's Check, evaluated (made by genck.py). No condition. -/
namespace Go.Proofs.YtcpoinfdnimanaaGreatDoor.CK
set_option linter.unusedVariables false
set_option linter.unusedSimpArgs false
open Go AE EX PT
set_option maxRecDepth 100000


noncomputable def gLoop : Code := cutC (bodyOf Tryz.f41) [1, 1, 1, 0, 1, 0, 0]
noncomputable def gl0 : Code := cutC (bodyOf Tryz.f41) [0]
noncomputable def gl1 : Code := cutC (bodyOf Tryz.f41) [1, 0]
noncomputable def gl2 : Code := cutC (bodyOf Tryz.f41) [1, 1, 0]
noncomputable def gl3 : Code := cutC (bodyOf Tryz.f41) [1, 1, 1, 0, 0]
noncomputable def gl4 : Code := cutC (bodyOf Tryz.f41) [1, 1, 1, 1]
theorem f33b : Tryz.f41.body = some (.seq gl0 (.seq gl1 (.seq gl2 (.seq (.seq gl3 (.block 0 (.loop gLoop))) gl4)))) := rfl

theorem all_round2 (n : Nat) (c0 c1' c2' c3' c4' : AV) (tk : Bool) (e : X) (kids : List X) (S0 : St) (hs : sizeL kids ≤ 1048000)
    (hrec : ∀ x ∈ kids, ∀ S, ev Tryz.prog E n 41 [x.emb] S = some (.ret (.slice (embL x.nodes) (allTok x)), S)) (i : Nat) (hi : i < kids.length) (fs : FS) (h : GI n [c0, c1', c2', c3', c4', .slice (embL kids) (tokOf tk)] e kids S0 i fs) :
    ∃ fs', evCode ⟨Tryz.prog, E.esc 41, n⟩ (ev Tryz.prog E n) (E.ps 41) n gLoop fs = some (.norm, fs') ∧ GI n [c0, c1', c2', c3', c4', .slice (embL kids) (tokOf tk)] e kids S0 (i + 1) fs' := by
  obtain ⟨t, b, v, S⟩ := fs
  obtain ⟨h1, h2, h3, h4⟩ := h
  simp only at h1 h2 h3 h4
  have hlk := sizeL_length kids
  have hlen := embL_length kids
  have hltz : (i : Int) < kids.length := by omega
  have hxe : kids[i]? = some kids[i] := List.getElem?_eq_getElem hi
  have hr := hrec kids[i] (List.getElem_mem hi) S
  have hsplit : kids.take (i + 1) = kids.take i ++ [kids[i]] := by rw [List.take_add_one, hxe]; rfl
  have hnd : nodesL (kids.take (i + 1)) = nodesL (kids.take i) ++ kids[i].nodes := by rw [hsplit, nodesL_append]; simp [nodesL]
  have hemb : (embL kids)[i]? = some kids[i].emb := by rw [embL_map, List.getElem?_map, hxe]; rfl
  have ha1 := cells_all kids[i]
  have hc1 := (cells_ok kids[i]).2
  have ht1 : List.take 6 kids[i].cells = kids[i].cells := List.take_of_length_le (by omega)
  have hne := nodes_ne kids[i]
  have hsz1 := nodes_size kids[i]
  have hsz2 := sizeL_mem (List.getElem_mem hi)
  have hsz3 := nodesL_size (kids.take i)
  have hsz4 := take_size kids i
  rw [emb_cells] at hemb hr
  have hw : IntKind.i64.wrap ((i : Int) + 1) = (i : Int) + 1 := wrap64 _ (by omega)
  obtain ⟨z, hz⟩ := ii24
  by_cases h0 : i = 0
  · subst h0
    rw [if_pos rfl] at h4
    obtain ⟨h4, rfl⟩ := h4
    have ha := appC [e] kids[0].nodes (allTok kids[0]) S hne (by simp) (by omega)
    generalize kids[0].nodes = N at *
    generalize allTok kids[0] = tA at *
    generalize kids[0].cells = C1 at *
    generalize hE : embL [e] = ee at *
    generalize hEN : embL ([e] ++ N) = eN at *
    refine ⟨_, by
      simp (disch := first | (simp only [List.length_append, List.length_cons, List.length_nil]; omega) | (simp; done) | assumption) [AV.cells?, AV.isCell, gLoop, cutC, bodyOf, Tryz.f41, E_esc, h1, h2, h3, h4, fq5, k22, c22, a22, k24, c24, a24, i24, hz, sq22, bq3, hlen, hi, hltz, hemb, hr, ha1, hc1, ht1, ha]
      rfl, by simp [upd, h1], by simp [upd, h2], by simp [upd, wrap64 1 (by omega)], ?_⟩
    rw [if_neg (by omega), hnd]
    refine ⟨([e].length + N.length) * 6, ?_, rfl⟩
    rw [← hEN]
    simp [upd, nodesL]
  · rw [if_neg h0] at h4
    obtain ⟨p, h4, rfl⟩ := h4
    have ha := appO (e :: nodesL (kids.take i)) kids[i].nodes (allTok kids[i]) S0 p hne (by simp; omega) (by omega)
    generalize kids[i].nodes = N at *
    generalize allTok kids[i] = tA at *
    generalize kids[i].cells = C1 at *
    generalize hE : embL (e :: nodesL (kids.take i)) = ee at *
    generalize hEN : embL (e :: nodesL (kids.take i) ++ N) = eN at *
    refine ⟨_, by
      simp (disch := first | (simp only [List.length_append, List.length_cons, List.length_nil]; omega) | (simp; done) | assumption) [AV.cells?, AV.isCell, gLoop, cutC, bodyOf, Tryz.f41, E_esc, h1, h2, h3, h4, fq5, k22, c22, a22, k24, c24, a24, i24, hz, sq22, bq3, hlen, hi, hltz, hemb, hr, ha1, hc1, ht1, ha]
      rfl, by simp [upd, h1], by simp [upd, h2], by simp [upd, hw], ?_⟩
    rw [if_neg (by omega), hnd]
    refine ⟨p + N.length * 6, ?_, rfl⟩
    rw [← List.cons_append, hEN]
    simp [upd]

theorem ev_All : ∀ (m : Nat) (x : X), x.size ≤ m → m ≤ 1048000 → ∀ n, m + 2 ≤ n → ∀ S, ev Tryz.prog E n 41 [x.emb] S = some (.ret (.slice (embL x.nodes) (allTok x)), S)
  | 0, x, hm, _, _, _, _ => absurd hm (by have := size_pos x; omega)
  | m + 1, x, hm, hmm, n, hn, S => by
    obtain ⟨n, rfl⟩ : ∃ k, n = k + 1 := ⟨n - 1, by omega⟩
    obtain ⟨k, nm, a, lo, hi, tk, kids⟩ := x
    simp only [X.size] at hm
    have hl := sizeL_length kids
    have hlen := embL_length kids
    have hE1 : AV.agg [.int .i64 k, .str nm, .int .i64 a, .int .i64 lo, .int .i64 hi, .slice (embL kids) (tokOf tk)] = (X.mk k nm a lo hi tk kids).emb := rfl
    have hbs : evBuildSlice Tryz.prog 31 1 [(0, AV.agg [.int .i64 k, .str nm, .int .i64 a, .int .i64 lo, .int .i64 hi, .slice (embL kids) (tokOf tk)])] = some (.slice (embL [X.mk k nm a lo hi tk kids]) .clip) := by
      simp [evBuildSlice, sq22, z24, c24, a24, evElems, AV.cells?, AV.isCell, embL, X.emb]
    simp only [X.emb]
    rw [ev_enter (n := n) (show E.ok 41 = true from rfl) Tryz.func41 f33b (Nat.le_of_ble_eq_true rfl) (by decide +kernel)]
    cases h4 : k == 4
    · have key : ∀ fs, GI n [.int .i64 k, .str nm, .int .i64 a, .int .i64 lo, .int .i64 hi, .slice (embL kids) (tokOf tk)] (.mk k nm a lo hi tk kids) kids S 0 fs → ∃ fs', iter n (evCode ⟨Tryz.prog, E.esc 41, n⟩ (ev Tryz.prog E n) (E.ps 41) n gLoop) fs = some (.exit 0, fs') ∧
          GI n [.int .i64 k, .str nm, .int .i64 a, .int .i64 lo, .int .i64 hi, .slice (embL kids) (tokOf tk)] (.mk k nm a lo hi tk kids) kids S kids.length fs' := fun fs h => by
        obtain ⟨⟨o, fs'⟩, r1, r2, r3⟩ := iter_range (Q := fun r => r.1 = .exit 0 ∧ GI n [.int .i64 k, .str nm, .int .i64 a, .int .i64 lo, .int .i64 hi, .slice (embL kids) (tokOf tk)] (.mk k nm a lo hi tk kids) kids S kids.length r.2) (len := kids.length)
          (fun i hi' fs h => all_round2 n _ _ _ _ _ tk _ kids S (by omega) (fun x hx S => ev_All m x (by have := sizeL_mem hx; omega) (by omega) n (by omega) S) i hi' fs h)
          (fun fs h => by
            obtain ⟨t, b, v, S'⟩ := fs
            obtain ⟨h1, h2, h3, h4⟩ := h
            simp only at h1 h2 h3 h4
            refine ⟨.exit 0, _, by
              simp (disch := first | (simp only [List.length_append, List.length_cons, List.length_nil]; omega) | (simp; done) | assumption) [AV.cells?, AV.isCell, gLoop, cutC, bodyOf, Tryz.f41, h1, h2, h3, fq5, k22, c22, a22, bq3, sq22, hlen]
              rfl, by simp, rfl, by simp [upd, h1], by simp [upd, h2], by simp [upd, h3], by simpa [upd] using h4⟩) kids.length 0 n fs (by omega) (by omega) h
        simp only at r2
        subst r2
        exact ⟨fs', r1, r3⟩
      generalize hee : embL [X.mk k nm a lo hi tk kids] = ee at *
      obtain ⟨⟨t, b, v, S'⟩, hr, g1, g2, g3, g4⟩ := key ⟨upd 4 (.int .i64 0) (upd 9 (.bool false) (upd 8 (.int .i64 k) (upd 7 (.loc n 1 1 0) (upd 3 (.slice ee .clip) (upd 6 (.slice ee .clip) (upd 5 (.agg [.int .i64 k, .str nm, .int .i64 a, .int .i64 lo, .int .i64 hi, .slice (embL kids) (tokOf tk)])
        (upd 2 (.slice [] .clip) (upd 1 (.loc n 1 1 0) (argsA [.agg [.int .i64 k, .str nm, .int .i64 a, .int .i64 lo, .int .i64 hi, .slice (embL kids) (tokOf tk)]]))))))))),
        upd 1 (1, [.int .i64 k, .str nm, .int .i64 a, .int .i64 lo, .int .i64 hi, .slice (embL kids) (tokOf tk)]) (fun _ => (0, [])), 9, S⟩
        ⟨by simp [upd], by simp [upd], by simp [upd], by rw [if_pos rfl]; exact ⟨by simp [upd, hee], rfl⟩⟩
      simp only at g1 g2 g3 g4
      by_cases h0 : kids.length = 0
      · have : kids = [] := List.eq_nil_of_length_eq_zero h0
        subst this
        rw [if_pos (show ([] : List X).length = 0 from rfl)] at g4
        obtain ⟨g4, rfl⟩ := g4
        rw [hee] at g4
        have hf := fin_clip [X.mk k nm a lo hi tk []] S'
        rw [hee] at hf
        have hnn : embL (X.mk k nm a lo hi tk []).nodes = ee := by rw [← hee]; simp [X.nodes, nodesL]
        rw [hnn]
        simp (disch := first | (simp only [List.length_append, List.length_cons, List.length_nil]; omega) | (simp; done) | assumption) [AV.cells?, AV.isCell, -evBuildSlice, gl0, gl1, gl2, gl3, gl4, cutC, bodyOf, Tryz.f41, E_esc, k24, c24, a24, k3, c3, a3, fq0, bq3, h4, hr, g4, hf, hbs, allTok]
      · rw [if_neg h0] at g4
        obtain ⟨p, g4, rfl⟩ := g4
        rw [List.take_length] at g4
        have hnn : (X.mk k nm a lo hi tk kids).nodes = X.mk k nm a lo hi tk kids :: nodesL kids := by simp [X.nodes, h4]
        rw [← hnn] at g4
        have hf := fin_own (X.mk k nm a lo hi tk kids).nodes S p [p]
        generalize embL (X.mk k nm a lo hi tk kids).nodes = en at *
        simp (disch := first | (simp only [List.length_append, List.length_cons, List.length_nil]; omega) | (simp; done) | assumption) [AV.cells?, AV.isCell, -evBuildSlice, gl0, gl1, gl2, gl3, gl4, cutC, bodyOf, Tryz.f41, E_esc, k24, c24, a24, k3, c3, a3, fq0, bq3, h4, hr, g4, hf, hbs, allTok, h0, show kids ≠ [] from fun h => h0 (by rw [h]; rfl)]
    · have hnn : (X.mk k nm a lo hi tk kids).nodes = [X.mk k nm a lo hi tk kids] := by simp [X.nodes, h4]
      have hf := fin_clip [X.mk k nm a lo hi tk kids] S
      rw [hnn]
      generalize embL [X.mk k nm a lo hi tk kids] = ee at *
      simp (disch := first | (simp only [List.length_append, List.length_cons, List.length_nil]; omega) | (simp; done) | assumption) [AV.cells?, AV.isCell, -evBuildSlice, gl0, gl1, gl2, gl3, gl4, cutC, bodyOf, Tryz.f41, E_esc, k24, c24, a24, k3, c3, a3, fq0, bq3, h4, hf, hbs, allTok]
end Go.Proofs.YtcpoinfdnimanaaGreatDoor.CK
/- beadlelaw22.alive, evaluated. No condition. -/
namespace Go.Proofs.YtcpoinfdnimanaaGreatDoor.PT
set_option linter.unusedVariables false
set_option linter.unusedSimpArgs false
open Go AE
set_option maxRecDepth 100000
theorem ev_alive22 : ev Tryz.prog E 3000000 8 [] st0 = some (.ret (.bool true), st0) := by kernel_rfl
end Go.Proofs.YtcpoinfdnimanaaGreatDoor.PT
/- PolicyFinds, evaluated. No condition. -/
namespace Go.Proofs.YtcpoinfdnimanaaGreatDoor.PO
set_option linter.unusedVariables false
set_option linter.unusedSimpArgs false
open Go AE EX PT NF
set_option maxRecDepth 100000

def cntN (l : List X) : Nat := (l.filter fun y => looksB (kOf y)).length
theorem cntN_snoc (l : List X) (x : X) : cntN (l ++ [x]) = cntN l + (looksB (kOf x)).toNat := by
  unfold cntN
  cases q : looksB (kOf x) <;> simp [List.filter_append, q]
noncomputable def lcl_p0 : Code := cutC (bodyOf Tryz.f17) [0]
noncomputable def lcl_p1 : Code := cutC (bodyOf Tryz.f17) [1, 0]
noncomputable def lcl_p2 : Code := cutC (bodyOf Tryz.f17) [1, 1, 0, 0]
noncomputable def lcl_L0 : Code := cutC (bodyOf Tryz.f17) [1, 1, 0, 1, 0, 0]
noncomputable def lcl_p3 : Code := cutC (bodyOf Tryz.f17) [1, 1, 0, 1, 0, 0, 0]
noncomputable def lcl_p4 : Code := cutC (bodyOf Tryz.f17) [1, 1, 0, 1, 0, 0, 1, 0, 0, 0]
noncomputable def lcl_p5 : Code := cutC (bodyOf Tryz.f17) [1, 1, 0, 1, 0, 0, 1, 0, 0, 1, 0, 0]
noncomputable def lcl_L1 : Code := cutC (bodyOf Tryz.f17) [1, 1, 0, 1, 0, 0, 1, 0, 0, 1, 0, 1, 0, 0]
noncomputable def lcl_p6 : Code := cutC (bodyOf Tryz.f17) [1, 1, 0, 1, 0, 0, 1, 0, 0, 1, 1]
noncomputable def lcl_p7 : Code := cutC (bodyOf Tryz.f17) [1, 1, 0, 1, 0, 0, 1, 1]
theorem lcl_L0_e : lcl_L0 = (.seq lcl_p3 (.seq (.block 1 (.seq lcl_p4 (.seq (.seq lcl_p5 (.block 2 (.loop lcl_L1))) lcl_p6))) lcl_p7)) := rfl
noncomputable def lcl_p8 : Code := cutC (bodyOf Tryz.f17) [1, 1, 1]
theorem lcl_b : Tryz.f17.body = some (.seq lcl_p0 (.seq lcl_p1 (.seq (.seq lcl_p2 (.block 0 (.loop lcl_L0))) lcl_p8))) := rfl
/-- ahead of a round -/
def lcl_I1 (n : Nat) (ns : List X) (tn : Tok) (c1 c3 c4 : AV) (C : Nat × List AV) (S0 : St) (i : Nat) (fs : FS) : Prop :=
  fs.t 1 = c1 ∧ fs.b 1 = C ∧ fs.t 3 = c3 ∧ fs.t 4 = c4 ∧ fs.t 5 = .slice (embL ns) tn ∧ fs.t 6 = .int .i64 ((cntN (ns.take i) : Nat) : Int) ∧ fs.t 7 = .int .i64 (i : Nat) ∧ fs.S = S0
theorem lcl_go1 (n : Nat) (ns : List X) (tn : Tok) (c1 c3 c4 : AV) (C : Nat × List AV) (S0 : St) (hs : ns.length ≤ 1048576) (hn0 : 1 ≤ n) (i : Nat) (hi : i < ns.length) (fs : FS) (h : lcl_I1 n ns tn c1 c3 c4 C S0 i fs) :
    ∃ fs', (evCode ⟨Tryz.prog, E.esc 17, n⟩ (ev Tryz.prog E n) (E.ps 17) n lcl_L1) fs = some (.norm, fs') ∧ lcl_I1 n ns tn c1 c3 c4 C S0 (i + 1) fs' := by
  obtain ⟨tF, bF, cF, SF⟩ := fs
  obtain ⟨h1, h2, h3, h4, h5, h6, h7, h8⟩ := id h
  simp only at h1 h2 h3 h4 h5 h6 h7 h8
  subst h8
  have hiz : (i : Int) < (ns.length : Nat) := by omega
  have hw : IntKind.i64.wrap ((i : Int) + 1) = (i : Int) + 1 := wrap64 _ (by omega)
  obtain ⟨n, rfl⟩ : ∃ k, n = k + 1 := ⟨n - 1, by omega⟩
  have hxa : (embL ns)[i]? = some ns[i].emb := by rw [embL_map, List.getElem?_map, List.getElem?_eq_getElem hi]; rfl
  have hlen := embL_length ns
  have hsp : ((cntN (ns.take (i + 1)) : Nat) : Int) = ((cntN (ns.take i) : Nat) : Int) + ((looksB (kOf ns[i])).toNat : Nat) := by
    rw [List.take_add_one, List.getElem?_eq_getElem hi]
    simp only [Option.toList, cntN_snoc]
    omega
  have hb : cntN (ns.take i) ≤ 1048576 := Nat.le_trans (List.length_filter_le _ _) (by rw [List.length_take]; omega)
  have hw2 : IntKind.i64.wrap (((cntN (ns.take i) : Nat) : Int) + 1) = ((cntN (ns.take i) : Nat) : Int) + 1 := wrap64 _ (by omega)
  generalize hc : ((cntN (ns.take (i + 1)) : Nat) : Int) = d1 at *
  generalize ((cntN (ns.take i) : Nat) : Int) = d2 at *
  generalize ns[i] = x at *
  obtain ⟨k, nm, b, lo, hi2, tk', ks'⟩ := x
  simp only [X.emb] at hxa
  simp only [kOf] at hsp
  have hr := ev_Looks n k SF
  rcases Bool.eq_false_or_eq_true (looksB k) with q | q <;> rw [q] at hr hsp
  all_goals (
  refine ⟨_, by
    simp (disch := first | (simp only [List.length_append, List.length_cons, List.length_nil]; omega) | (simp [h1, h2, h3, h4, h5, h6, h7]; done) | assumption) [AV.cells?, AV.isCell, lcl_L1, cutC, bodyOf, Tryz.f17, h1, h2, h3, h4, h5, h6, h7, hi, hiz, hr, hxa, hlen, q]
    rfl, ?_⟩
  simp [lcl_I1, upd, h1, h2, h3, h4, h5, h6, h7, hw, hc, hsp, hw2])
theorem lcl_end1 (n : Nat) (ns : List X) (tn : Tok) (c1 c3 c4 : AV) (C : Nat × List AV) (S0 : St) (hs : ns.length ≤ 1048576) (hn0 : 1 ≤ n) (fs : FS) (h : lcl_I1 n ns tn c1 c3 c4 C S0 (ns.length) fs) : ∃ fs', (evCode ⟨Tryz.prog, E.esc 17, n⟩ (ev Tryz.prog E n) (E.ps 17) n lcl_L1) fs = some (.exit 2, fs') ∧ lcl_I1 n ns tn c1 c3 c4 C S0 (ns.length) fs' := by
  obtain ⟨tF, bF, cF, SF⟩ := fs
  obtain ⟨h1, h2, h3, h4, h5, h6, h7, h8⟩ := id h
  simp only at h1 h2 h3 h4 h5 h6 h7 h8
  subst h8
  refine ⟨_, by
    simp (disch := first | (simp only [List.length_append, List.length_cons, List.length_nil]; omega) | (simp; done) | assumption) [AV.cells?, AV.isCell, lcl_L1, cutC, bodyOf, Tryz.f17, h1, h2, h3, h4, h5, h6, h7, embL_length]
    rfl, ?_⟩
  simp only [lcl_I1, upd] at h ⊢
  simpa using h
theorem lcl_all1 (n : Nat) (ns : List X) (tn : Tok) (c1 c3 c4 : AV) (C : Nat × List AV) (S0 : St) (hs : ns.length ≤ 1048576) (hn0 : 1 ≤ n) (hn : ns.length < n) : ∃ F : FS → FS, (∀ fs, lcl_I1 n ns tn c1 c3 c4 C S0 0 fs → iter n (evCode ⟨Tryz.prog, E.esc 17, n⟩ (ev Tryz.prog E n) (E.ps 17) n lcl_L1) fs = some (.exit 2, F fs)) ∧ ∀ fs, lcl_I1 n ns tn c1 c3 c4 C S0 0 fs → lcl_I1 n ns tn c1 c3 c4 C S0 (ns.length) (F fs) :=
  for_all (lcl_I1 n ns tn c1 c3 c4 C S0) 2 (ns.length) hn (fun i hi fs h => lcl_go1 n ns tn c1 c3 c4 C S0 hs hn0 i hi fs h) (fun fs h => lcl_end1 n ns tn c1 c3 c4 C S0 hs hn0 fs h)
/-- ahead of a round -/
def lcl_I0 (n : Nat) (l : List Rt) (tk : Tok) (d : AV) (S0 : St) (i : Nat) (fs : FS) : Prop :=
  fs.t 1 = .loc n 1 1 0 ∧ fs.b 1 = (1, [d, .slice (rtL l) tk]) ∧ fs.t 3 = .int .i64 ((maxC (l.take i) : Nat) : Int) ∧ fs.t 4 = .int .i64 (i : Nat) ∧ fs.S = S0
theorem lcl_go0 (n : Nat) (l : List Rt) (tk : Tok) (d : AV) (S0 : St) (hs : rtsSize l ≤ 1048000) (hs2 : l.length ≤ 1048576) (hn0 : rtsSize l + 4 ≤ n) (i : Nat) (hi : i < l.length) (fs : FS) (h : lcl_I0 n l tk d S0 i fs) :
    ∃ fs', (evCode ⟨Tryz.prog, E.esc 17, n⟩ (ev Tryz.prog E n) (E.ps 17) n lcl_L0) fs = some (.norm, fs') ∧ lcl_I0 n l tk d S0 (i + 1) fs' := by
  obtain ⟨tF, bF, cF, SF⟩ := fs
  obtain ⟨h1, h2, h3, h4, h5⟩ := id h
  simp only at h1 h2 h3 h4 h5
  subst h5
  have hiz : (i : Int) < (l.length : Nat) := by omega
  have hw : IntKind.i64.wrap ((i : Int) + 1) = (i : Int) + 1 := wrap64 _ (by omega)
  have h0 := rts_mem (List.getElem_mem hi)
  have hlen0 := rts_len l
  have h00 : l[i].on.size ≤ l[i].size := by simp only [Rt.size]; omega
  have hns : l[i].on.nodes.length ≤ l[i].on.size := nodes_size _
  have hr := CK.ev_All _ l[i].on (Nat.le_refl _) (by omega) n (by omega) SF
  have hxa := rtL_get l hi
  have hsp : ((maxC (l.take (i + 1)) : Nat) : Int) = if ((cnt l[i].on : Nat) : Int) > ((maxC (l.take i) : Nat) : Int) then ((cnt l[i].on : Nat) : Int) else ((maxC (l.take i) : Nat) : Int) := by
    rw [List.take_add_one, List.getElem?_eq_getElem hi]
    simp only [Option.toList, maxC_snoc]
    split <;> omega
  obtain ⟨F, hF, hR⟩ := lcl_all1 n l[i].on.nodes (allTok l[i].on) (.loc n 1 1 0) (.int .i64 ((maxC (l.take i) : Nat) : Int)) (.int .i64 (i : Nat)) (1, [d, .slice (rtL l) tk]) SF (by omega) (by omega) (by omega)
  simp only [lcl_I1, List.take_zero, List.take_length, show cntN [] = 0 from rfl] at hF hR
  rw [show cntN l[i].on.nodes = cnt l[i].on from rfl] at hR
  generalize hc : ((maxC (l.take (i + 1)) : Nat) : Int) = c1 at *
  generalize ((maxC (l.take i) : Nat) : Int) = c2 at *
  generalize ((cnt l[i].on : Nat) : Int) = c3 at *
  generalize l[i].on.nodes = ns at *
  generalize allTok l[i].on = tn at *
  generalize l[i] = x at *
  obtain ⟨na, ⟨k1, m1, x1, l1, u1, t1, s1⟩, ⟨k2, m2, x2, l2, u2, t2, s2⟩, ⟨ba, tba⟩, ⟨da, tda⟩, ⟨aa, taa⟩, ⟨ua, tua⟩⟩ := x
  simp only [Rt.emb, Rt.cells, X.cells, List.cons_append, List.nil_append] at hxa
  simp only [X.emb] at hr
  all_goals (
  refine ⟨_, by
    simp (disch := first | (simp only [List.length_append, List.length_cons, List.length_nil]; omega) | (simp [h1, h2, h3, h4]; done) | assumption) [AV.cells?, AV.isCell, lcl_L0_e, lcl_p0, lcl_p1, lcl_p2, lcl_p3, lcl_p4, lcl_p5, lcl_p6, lcl_p7, lcl_p8, cutC, bodyOf, Tryz.f17, h1, h2, h3, h4, hi, hiz, hr, hxa, rtL_len, hF, hR]
    rfl, ?_⟩
  simp [lcl_I0, upd, h1, h2, h3, h4, hw, hc, hsp, hR])
theorem lcl_end0 (n : Nat) (l : List Rt) (tk : Tok) (d : AV) (S0 : St) (hs : rtsSize l ≤ 1048000) (hs2 : l.length ≤ 1048576) (hn0 : rtsSize l + 4 ≤ n) (fs : FS) (h : lcl_I0 n l tk d S0 (l.length) fs) : ∃ fs', (evCode ⟨Tryz.prog, E.esc 17, n⟩ (ev Tryz.prog E n) (E.ps 17) n lcl_L0) fs = some (.exit 0, fs') ∧ lcl_I0 n l tk d S0 (l.length) fs' := by
  obtain ⟨tF, bF, cF, SF⟩ := fs
  obtain ⟨h1, h2, h3, h4, h5⟩ := id h
  simp only at h1 h2 h3 h4 h5
  subst h5
  refine ⟨_, by
    simp (disch := first | (simp only [List.length_append, List.length_cons, List.length_nil]; omega) | (simp; done) | assumption) [AV.cells?, AV.isCell, lcl_L0_e, lcl_p0, lcl_p1, lcl_p2, lcl_p3, lcl_p4, lcl_p5, lcl_p6, lcl_p7, lcl_p8, cutC, bodyOf, Tryz.f17, h1, h2, h3, h4, rtL_len]
    rfl, ?_⟩
  simp only [lcl_I0, upd] at h ⊢
  simpa using h
theorem lcl_all0 (n : Nat) (l : List Rt) (tk : Tok) (d : AV) (S0 : St) (hs : rtsSize l ≤ 1048000) (hs2 : l.length ≤ 1048576) (hn0 : rtsSize l + 4 ≤ n) (hn : l.length < n) : ∃ F : FS → FS, (∀ fs, lcl_I0 n l tk d S0 0 fs → iter n (evCode ⟨Tryz.prog, E.esc 17, n⟩ (ev Tryz.prog E n) (E.ps 17) n lcl_L0) fs = some (.exit 0, F fs)) ∧ ∀ fs, lcl_I0 n l tk d S0 0 fs → lcl_I0 n l tk d S0 (l.length) (F fs) :=
  for_all (lcl_I0 n l tk d S0) 0 (l.length) hn (fun i hi fs h => lcl_go0 n l tk d S0 hs hs2 hn0 i hi fs h) (fun fs h => lcl_end0 n l tk d S0 hs hs2 hn0 fs h)
theorem ev_lcells (n : Nat) (p : Pl) (hs : p.size ≤ 1048000) (hn : p.size + 6 ≤ n) (S : St) : ev Tryz.prog E (n + 1) 17 [p.emb] S = some (.ret (.int .i64 (maxC p.rights.l : Nat)), S) := by
  obtain ⟨⟨da, tda⟩, ⟨ra, tra⟩⟩ := p
  simp only [Pl.size] at hs hn
  have h1 := rts_len ra
  obtain ⟨F, hF, hR⟩ := lcl_all0 n ra (tokOf tra) (.slice (dcL da) (tokOf tda)) S (by omega) (by omega) (by omega) (by omega)
  simp only [lcl_I0, List.take_zero, List.take_length, show maxC [] = 0 from rfl] at hF hR
  simp only [Pl.emb]
  rw [ev_enter (n := n) (show E.ok 17 = true from rfl) Tryz.func17 lcl_b (Nat.le_of_ble_eq_true rfl) (by decide +kernel)]
  simp (disch := first | (simp [upd]; done) | omega | assumption) [AV.cells?, AV.isCell, lcl_p0, lcl_p1, lcl_p2, lcl_p3, lcl_p4, lcl_p5, lcl_p6, lcl_p7, lcl_p8, cutC, bodyOf, Tryz.f17, rtL_len, hF, hR]

/-! ### a copy is alike -/
mutual
theorem same_refl : ∀ x : X, x.same x = true
  | .mk k nm n lo hi tk ks => by simp [X.same, sameL_refl ks]
theorem sameL_refl : ∀ l : List X, sameL l l = true
  | [] => rfl
  | x :: l => by simp [sameL, same_refl x, sameL_refl l]
end
mutual
theorem same_cl : ∀ x : X, (cl x).same x = true
  | .mk k nm n lo hi tk ks => by simp [cl, X.same, sameL_clL ks, clL_len]
theorem sameL_clL : ∀ l : List X, sameL (clL l) l = true
  | [] => rfl
  | x :: l => by simp [clL, sameL, same_cl x, sameL_clL l]
end
mutual
theorem cl_size : ∀ x : X, (cl x).size = x.size
  | .mk k nm n lo hi tk ks => by simp [cl, X.size, clL_size ks]
theorem clL_size : ∀ l : List X, sizeL (clL l) = sizeL l
  | [] => rfl
  | x :: l => by simp [clL, sizeL, cl_size x, clL_size l]
end
theorem eqvL_refl {α : Type} {f : α → α → Bool} (h : ∀ x, f x x = true) : ∀ l : List α, eqvL f l l = true
  | [] => rfl
  | x :: l => by simp [eqvL, h x, eqvL_refl h l]
theorem up_refl (u : Up) : u.eqv u = true := by simp [Up.eqv, same_refl]
theorem du_refl (u : Du) : u.eqv u = true := by simp [Du.eqv]
theorem dc_refl (u : Dc) : u.eqv u = true := by simp [Dc.eqv]
theorem ups_cl : ∀ l : List Up, eqvL Up.eqv (l.map clU) l = true
  | [] => rfl
  | u :: l => by simp [eqvL, ups_cl l, Up.eqv, clU, same_cl]
theorem ups_clsize : ∀ l : List Up, upsSize (l.map clU) = upsSize l
  | [] => rfl
  | u :: l => by simp [upsSize, ups_clsize l, clU, cl_size]
theorem clR_eqv (r : Rt) : (clR r).eqv r = true := by simp [clR, Rt.eqv, same_cl, clUs, ups_cl, eqvL_refl du_refl]
theorem clR_size (r : Rt) : (clR r).size = r.size := by simp [clR, Rt.size, cl_size, clUs, ups_clsize]
theorem rt_refl (r : Rt) : r.eqv r = true := by simp [Rt.eqv, same_refl, eqvL_refl up_refl, eqvL_refl du_refl]
theorem pl_refl (p : Pl) : p.eqv p = true := by simp [Pl.eqv, eqvL_refl dc_refl, eqvL_refl rt_refl]
theorem findR_size (l : List Rt) (s : List UInt8) : (findR l s).1.size ≤ rtsSize l + 10 := by
  unfold findR
  cases q : ixF (fun r => r.nm == s) l with
  | none => simp [rt0, Rt.size, X.size, sizeL, upsSize]
  | some j =>
    obtain ⟨hj, _, _⟩ := ixF_some q
    have h2 := rts_mem (List.getElem_mem hj)
    have hg : l.getD j rt0 = l[j] := by simp [List.getD, hj]
    simp only [hg]; omega

/-! ### the law -/
theorem law_PolicyFinds (p q : Pl) (s : List UInt8) (hp : p.size + 30 ≤ 1048000) (hq : q.size + 30 ≤ 1048000) :
    ev Tryz.prog E 3000001 4 [p.emb, q.emb, .str s] st0 = some (.ret (.bool true), st0) := by
  have e0 := ev_alive22
  have e1 := ev_Find 2999999 p s (by omega) (by omega) st0
  have e2 := ev_rFind 2999999 p.rights.l (tokOf p.rights.tk) s st0 (by have := rts_len p.rights.l; simp only [Pl.size] at hp; omega) (by have := rts_len p.rights.l; simp only [Pl.size] at hp; omega)
  have hsz := findR_size p.rights.l s
  have e3 := ev_Right 2999999 (clR (findR p.rights.l s).1) (findR p.rights.l s).1 (by rw [clR_size]; simp only [Pl.size] at hp; omega) (by simp only [Pl.size] at hp; omega) (by rw [clR_size]; simp only [Pl.size] at hp; omega) st0
  have e4 := ev_Same 2999999 p q (by omega) (by omega) (by omega) st0
  have e5 := ev_Policy 2999999 p q (by omega) (by omega) (by omega) st0
  have e6 := ev_Same 2999999 p p (by omega) (by omega) (by omega) st0
  have e7 := ev_pCells 2999999 p (by omega) (by omega) st0
  have e8 := ev_lcells 2999999 p (by omega) (by omega) st0
  rw [clR_eqv] at e3
  rw [pl_refl] at e6
  generalize hc : clR (findR p.rights.l s).1 = c at *
  generalize (findR p.rights.l s).2 = ok at *
  generalize (findR p.rights.l s).1 = r at *
  generalize p.eqv q = b at *
  generalize ((maxC p.rights.l : Nat) : Int) = m at *
  clear hc hsz hp hq
  obtain ⟨⟨da, tda⟩, ⟨ra, tra⟩⟩ := p
  obtain ⟨⟨db, tdb⟩, ⟨rb, trb⟩⟩ := q
  obtain ⟨na, ⟨k1, m1, x1, l1, u1, t1, s1⟩, ⟨k2, m2, x2, l2, u2, t2, s2⟩, ⟨ba, tba⟩, ⟨da', tda'⟩, ⟨aa, taa⟩, ⟨ua, tua⟩⟩ := r
  obtain ⟨nb, ⟨k3, m3, x3, l3, u3, t3, s3⟩, ⟨k4, m4, x4, l4, u4, t4, s4⟩, ⟨bb, tbb⟩, ⟨db', tdb'⟩, ⟨ab, tab⟩, ⟨ub, tub⟩⟩ := c
  simp only [Pl.emb, Rt.emb, Rt.cells, X.cells, List.cons_append, List.nil_append] at e1 e2 e3 e4 e5 e6 e7 e8 ⊢
  rw [show (3000001 : Nat) = 3000000 + 1 from rfl, ev_enter (n := 3000000) (show E.ok 4 = true from rfl) Tryz.func4 (fn := Tryz.f4) rfl (Nat.le_of_ble_eq_true rfl) (by decide +kernel)]
  simp (disch := first | (simp only [List.length_append, List.length_cons, List.length_nil]; omega) | (simp; done) | assumption) [AV.cells?, AV.isCell, Tryz.f4, e0, e1, e2, e3, e4, e5, e6, e7, e8]
end Go.Proofs.YtcpoinfdnimanaaGreatDoor.PO
/- What an input of a policy's parts reads as. No condition. -/
namespace Go.Proofs.YtcpoinfdnimanaaGreatDoor.PO
set_option linter.unusedVariables false
set_option linter.unusedSimpArgs false
open Go AE EX PT NF
open Go.ChangeShapes Go.WideShapes Go.RowKit
set_option maxRecDepth 100000

def sumB {α : Type} (f : α → Nat) : List α → Nat
  | [] => 0
  | x :: l => f x + sumB f l
theorem sumB_le {H : Type} {α : Type} {bulk : α → Nat} {fit : α → Prop} : ∀ (xs : List α) (ys : List (DataW H × List MemPlace)), ys.length = xs.length → (∀ (i : Nat) (x : α), xs[i]? = some x → ∃ y, ys[i]? = some y ∧ bulk x ≤ Rows.uptoBulk y.1 ∧ fit x) →
    sumB bulk xs ≤ Rows.uptoBulkAll (ys.map (·.1)) ∧ ∀ x ∈ xs, fit x
  | [], _, _, _ => by simp [sumB]
  | x :: xs, [], h, _ => by simp at h
  | x :: xs, y :: ys, h, hq => by
    have h1 := sumB_le xs ys (by simpa using h) fun i x' hx => by simpa using hq (i + 1) x' (by simpa using hx)
    obtain ⟨y', e, h2, h3⟩ := hq 0 x rfl
    simp at e
    subst e
    simp only [sumB, List.map_cons, Rows.uptoBulkAll]
    refine ⟨by omega, fun z hz => ?_⟩
    rcases List.mem_cons.1 hz with rfl | hz
    · exact h3
    · exact h1.2 z hz
theorem slice_read {H : Type} {enc : TypeId × Value → H} {W : World} {held : Bool} {α : Type} {emb : α → AV} {cl : α → List AV} {bulk : α → Nat} {fit : α → Prop} {sz t e fuel : Nat} (hpos : 0 < sz) (ht : Tryz.prog.underlying t = some (.slice e)) (hsz : Tryz.prog.cellsOf e = sz)
    (hcl : ∀ x, (emb x).cells? = some (cl x) ∧ (cl x).length = sz) {cs : List Value} {x : DataW H × List MemPlace} (h : DataW.trod enc Tryz.prog W 0 (fun _ => true) held fuel t cs = some x)
    (hel : ∀ n cs y, DataW.trod enc Tryz.prog W 0 (fun _ => true) held n e cs = some y → ∃ a, VRL (gh0 W) (cl a) cs ∧ bulk a ≤ Rows.uptoBulk y.1 ∧ fit a) :
    ∃ l : List α, VRL (gh0 W) [.slice (l.map emb) .non] cs ∧ sumB bulk l + 1 ≤ Rows.uptoBulk x.1 ∧ ∀ a ∈ l, fit a := by
  obtain ⟨l, hk, hq⟩ := slice_open (Q := fun x y => bulk x ≤ Rows.uptoBulk y.1 ∧ fit x) hpos ht hsz hcl h fun n cs y _ hy => hel n cs y hy
  refine ⟨l, hk, ?_⟩
  rcases hq with ⟨rfl, hx⟩ | ⟨ys, rest, hx, hl, hq⟩
  · rw [hx]; simp [sumB, Rows.uptoBulk]
  · have := sumB_le l ys hl hq
    rw [hx]
    simp only [Rows.uptoBulk]
    exact ⟨by omega, this.2⟩
def Dc.cells (d : Dc) : List AV := [.str d.nm, .int .i64 d.k]
def Up.cells (u : Up) : List AV := .int .i64 u.side :: .str u.nm :: u.to.cells
def Du.cells (d : Du) : List AV := [.str d.nm, .str d.on, .str d.act, .int .i64 d.within, .bool d.keep]
def Pl.cells (p : Pl) : List AV := [.slice (dcL p.decls.l) (tokOf p.decls.tk), .slice (rtL p.rights.l) (tokOf p.rights.tk)]
theorem Dc.cells_ok (d : Dc) : d.emb.cells? = some d.cells ∧ d.cells.length = 2 := ⟨rfl, rfl⟩
theorem Du.cells_ok (d : Du) : d.emb.cells? = some d.cells ∧ d.cells.length = 5 := ⟨rfl, rfl⟩
theorem Up.cells_ok (u : Up) : u.emb.cells? = some u.cells ∧ u.cells.length = 8 := by
  obtain ⟨sa, na, ⟨k, nm, x, lo, hi2, tk, ks⟩⟩ := u
  exact ⟨rfl, rfl⟩
theorem Rt.cells_ok (r : Rt) : r.emb.cells? = some r.cells ∧ r.cells.length = 17 := by
  obtain ⟨na, ⟨k1, m1, x1, l1, u1, t1, s1⟩, ⟨k2, m2, x2, l2, u2, t2, s2⟩, ⟨ba, tba⟩, ⟨da, tda⟩, ⟨aa, taa⟩, ⟨ua, tua⟩⟩ := r
  exact ⟨rfl, rfl⟩
def Dc.bulk (r : Dc) : Nat := 1 + r.nm.length + 1 + 1
def Dc.fit (r : Dc) : Prop := in64 r.k
theorem read_Dc {H : Type} {enc : TypeId × Value → H} {W : World} {held : Bool} (fuel : Nat) (cs : List Value) (x : DataW H × List MemPlace) (h : DataW.trod enc Tryz.prog W 0 (fun _ => true) held fuel 66 cs = some x) :
    ∃ r : Dc, VRL (gh0 W) r.cells cs ∧ r.bulk ≤ Rows.uptoBulk x.1 ∧ r.fit := by
  obtain ⟨xs, n, hf, rfl, hl, hxl, hfs⟩ := DataW.trod_struct Tryz.underlying66 h
  rw [show Tryz.prog.cellsOf 66 = 2 by kernel_rfl] at hl
  match cs, hl with
  | [v0, v1], _ =>
  match xs, hxl with
  | [x0, x1], _ =>
  have g0 : DataW.trod enc Tryz.prog W 0 (fun _ => true) held n 9 [v0] = some x0 := by simpa using hfs 0 _ rfl
  have g1 : DataW.trod enc Tryz.prog W 0 (fun _ => true) held n 3 [v1] = some x1 := by simpa using hfs 1 _ rfl
  clear hfs h
  obtain ⟨a0, e0, rfl, w0⟩ := DataW.trod_string Tryz.underlying9 g0
  cases e0
  obtain ⟨a1, e1, rfl, w1⟩ := DataW.trod_int Tryz.underlying3 g1
  cases e1
  refine ⟨⟨a0.data.toList, a1⟩, (VRL.append (.cons _ _ _ _ (.str _) .nil) (.cons _ _ _ _ (.int _ _) .nil)), ?_, wf64 w1⟩
  simp only [Dc.bulk, List.map_cons, List.map_nil, Rows.uptoBulk, Rows.uptoBulkAll] at *
  simp at *
  omega
/-- an argument of that type -/
theorem open_Dc {H : Type} {enc : TypeId × Value → H} {W : World} {base : Nat} {held : Bool} {v : Value} {d : DataW H} {ps : List MemPlace} (hval : Value.okWide Tryz.prog W .any base 66 v) (h : DataW.Trod enc Tryz.prog W 0 (fun _ => true) held 66 v d ps) :
    ∃ r : Dc, VR (gh0 W) (.agg r.cells) v ∧ r.bulk ≤ Rows.uptoBulk d ∧ r.fit := by
  simp only [Value.okWide, Tryz.underlying66] at hval
  obtain ⟨cs, rfl, _, _⟩ := hval
  obtain ⟨fuel, h⟩ := h
  obtain ⟨r, h1, h2, h3⟩ := read_Dc fuel _ _ h
  exact ⟨r, .agg _ _ h1, h2, h3⟩
def Up.bulk (r : Up) : Nat := 1 + 1 + r.nm.length + 1 + r.to.bulk
def Up.fit (r : Up) : Prop := in64 r.side ∧ r.to.fit
theorem read_Up {H : Type} {enc : TypeId × Value → H} {W : World} {held : Bool} (fuel : Nat) (cs : List Value) (x : DataW H × List MemPlace) (h : DataW.trod enc Tryz.prog W 0 (fun _ => true) held fuel 123 cs = some x) :
    ∃ r : Up, VRL (gh0 W) r.cells cs ∧ r.bulk ≤ Rows.uptoBulk x.1 ∧ r.fit := by
  obtain ⟨xs, n, hf, rfl, hl, hxl, hfs⟩ := DataW.trod_struct Tryz.underlying123 h
  rw [show Tryz.prog.cellsOf 123 = 8 by kernel_rfl] at hl
  match cs, hl with
  | [v0, v1, v2, v3, v4, v5, v6, v7], _ =>
  match xs, hxl with
  | [x0, x1, x2], _ =>
  have g0 : DataW.trod enc Tryz.prog W 0 (fun _ => true) held n 3 [v0] = some x0 := by simpa using hfs 0 _ rfl
  have g1 : DataW.trod enc Tryz.prog W 0 (fun _ => true) held n 9 [v1] = some x1 := by simpa using hfs 1 _ rfl
  have g2 : DataW.trod enc Tryz.prog W 0 (fun _ => true) held n 33 [v2, v3, v4, v5, v6, v7] = some x2 := by simpa using hfs 2 _ rfl
  clear hfs h
  obtain ⟨a0, e0, rfl, w0⟩ := DataW.trod_int Tryz.underlying3 g0
  cases e0
  obtain ⟨a1, e1, rfl, w1⟩ := DataW.trod_string Tryz.underlying9 g1
  cases e1
  obtain ⟨a2, q2, b2, w2⟩ := read_expr n _ _ g2
  refine ⟨⟨a0, a1.data.toList, a2⟩, (VRL.append (.cons _ _ _ _ (.int _ _) .nil) (VRL.append (.cons _ _ _ _ (.str _) .nil) q2)), ?_, ⟨wf64 w0, w2⟩⟩
  simp only [Up.bulk, List.map_cons, List.map_nil, Rows.uptoBulk, Rows.uptoBulkAll] at *
  simp at *
  omega
/-- an argument of that type -/
theorem open_Up {H : Type} {enc : TypeId × Value → H} {W : World} {base : Nat} {held : Bool} {v : Value} {d : DataW H} {ps : List MemPlace} (hval : Value.okWide Tryz.prog W .any base 123 v) (h : DataW.Trod enc Tryz.prog W 0 (fun _ => true) held 123 v d ps) :
    ∃ r : Up, VR (gh0 W) (.agg r.cells) v ∧ r.bulk ≤ Rows.uptoBulk d ∧ r.fit := by
  simp only [Value.okWide, Tryz.underlying123] at hval
  obtain ⟨cs, rfl, _, _⟩ := hval
  obtain ⟨fuel, h⟩ := h
  obtain ⟨r, h1, h2, h3⟩ := read_Up fuel _ _ h
  exact ⟨r, .agg _ _ h1, h2, h3⟩
def Du.bulk (r : Du) : Nat := 1 + r.nm.length + 1 + r.on.length + 1 + r.act.length + 1 + 1 + 1
def Du.fit (r : Du) : Prop := in64 r.within
theorem read_Du {H : Type} {enc : TypeId × Value → H} {W : World} {held : Bool} (fuel : Nat) (cs : List Value) (x : DataW H × List MemPlace) (h : DataW.trod enc Tryz.prog W 0 (fun _ => true) held fuel 60 cs = some x) :
    ∃ r : Du, VRL (gh0 W) r.cells cs ∧ r.bulk ≤ Rows.uptoBulk x.1 ∧ r.fit := by
  obtain ⟨xs, n, hf, rfl, hl, hxl, hfs⟩ := DataW.trod_struct Tryz.underlying60 h
  rw [show Tryz.prog.cellsOf 60 = 5 by kernel_rfl] at hl
  match cs, hl with
  | [v0, v1, v2, v3, v4], _ =>
  match xs, hxl with
  | [x0, x1, x2, x3, x4], _ =>
  have g0 : DataW.trod enc Tryz.prog W 0 (fun _ => true) held n 9 [v0] = some x0 := by simpa using hfs 0 _ rfl
  have g1 : DataW.trod enc Tryz.prog W 0 (fun _ => true) held n 9 [v1] = some x1 := by simpa using hfs 1 _ rfl
  have g2 : DataW.trod enc Tryz.prog W 0 (fun _ => true) held n 9 [v2] = some x2 := by simpa using hfs 2 _ rfl
  have g3 : DataW.trod enc Tryz.prog W 0 (fun _ => true) held n 2 [v3] = some x3 := by simpa using hfs 3 _ rfl
  have g4 : DataW.trod enc Tryz.prog W 0 (fun _ => true) held n 4 [v4] = some x4 := by simpa using hfs 4 _ rfl
  clear hfs h
  obtain ⟨a0, e0, rfl, w0⟩ := DataW.trod_string Tryz.underlying9 g0
  cases e0
  obtain ⟨a1, e1, rfl, w1⟩ := DataW.trod_string Tryz.underlying9 g1
  cases e1
  obtain ⟨a2, e2, rfl, w2⟩ := DataW.trod_string Tryz.underlying9 g2
  cases e2
  obtain ⟨a3, e3, rfl, w3⟩ := DataW.trod_int Tryz.underlying2 g3
  cases e3
  obtain ⟨a4, e4, rfl⟩ := DataW.trod_bool Tryz.underlying4 g4
  cases e4
  refine ⟨⟨a0.data.toList, a1.data.toList, a2.data.toList, a3, a4⟩, (VRL.append (.cons _ _ _ _ (.str _) .nil) (VRL.append (.cons _ _ _ _ (.str _) .nil) (VRL.append (.cons _ _ _ _ (.str _) .nil) (VRL.append (.cons _ _ _ _ (.int _ _) .nil) (.cons _ _ _ _ (.bool _) .nil))))), ?_, wf64 w3⟩
  simp only [Du.bulk, List.map_cons, List.map_nil, Rows.uptoBulk, Rows.uptoBulkAll] at *
  simp at *
  omega
/-- an argument of that type -/
theorem open_Du {H : Type} {enc : TypeId × Value → H} {W : World} {base : Nat} {held : Bool} {v : Value} {d : DataW H} {ps : List MemPlace} (hval : Value.okWide Tryz.prog W .any base 60 v) (h : DataW.Trod enc Tryz.prog W 0 (fun _ => true) held 60 v d ps) :
    ∃ r : Du, VR (gh0 W) (.agg r.cells) v ∧ r.bulk ≤ Rows.uptoBulk d ∧ r.fit := by
  simp only [Value.okWide, Tryz.underlying60] at hval
  obtain ⟨cs, rfl, _, _⟩ := hval
  obtain ⟨fuel, h⟩ := h
  obtain ⟨r, h1, h2, h3⟩ := read_Du fuel _ _ h
  exact ⟨r, .agg _ _ h1, h2, h3⟩
def Rt.bulk (r : Rt) : Nat := 1 + r.nm.length + 1 + r.pre.bulk + r.on.bulk + (sumB Up.bulk r.before.l + 1) + (sumB Up.bulk r.during.l + 1) + (sumB Up.bulk r.after.l + 1) + (sumB Du.bulk r.duties.l + 1)
def Rt.fit (r : Rt) : Prop := r.pre.fit ∧ r.on.fit ∧ (r.before.tk = false ∧ ∀ e ∈ r.before.l, e.fit) ∧ (r.during.tk = false ∧ ∀ e ∈ r.during.l, e.fit) ∧ (r.after.tk = false ∧ ∀ e ∈ r.after.l, e.fit) ∧ (r.duties.tk = false ∧ ∀ e ∈ r.duties.l, e.fit)
theorem read_Rt {H : Type} {enc : TypeId × Value → H} {W : World} {held : Bool} (fuel : Nat) (cs : List Value) (x : DataW H × List MemPlace) (h : DataW.trod enc Tryz.prog W 0 (fun _ => true) held fuel 37 cs = some x) :
    ∃ r : Rt, VRL (gh0 W) r.cells cs ∧ r.bulk ≤ Rows.uptoBulk x.1 ∧ r.fit := by
  obtain ⟨xs, n, hf, rfl, hl, hxl, hfs⟩ := DataW.trod_struct Tryz.underlying37 h
  rw [show Tryz.prog.cellsOf 37 = 17 by kernel_rfl] at hl
  match cs, hl with
  | [v0, v1, v2, v3, v4, v5, v6, v7, v8, v9, v10, v11, v12, v13, v14, v15, v16], _ =>
  match xs, hxl with
  | [x0, x1, x2, x3, x4, x5, x6], _ =>
  have g0 : DataW.trod enc Tryz.prog W 0 (fun _ => true) held n 9 [v0] = some x0 := by simpa using hfs 0 _ rfl
  have g1 : DataW.trod enc Tryz.prog W 0 (fun _ => true) held n 33 [v1, v2, v3, v4, v5, v6] = some x1 := by simpa using hfs 1 _ rfl
  have g2 : DataW.trod enc Tryz.prog W 0 (fun _ => true) held n 33 [v7, v8, v9, v10, v11, v12] = some x2 := by simpa using hfs 2 _ rfl
  have g3 : DataW.trod enc Tryz.prog W 0 (fun _ => true) held n 34 [v13] = some x3 := by simpa using hfs 3 _ rfl
  have g4 : DataW.trod enc Tryz.prog W 0 (fun _ => true) held n 34 [v14] = some x4 := by simpa using hfs 4 _ rfl
  have g5 : DataW.trod enc Tryz.prog W 0 (fun _ => true) held n 34 [v15] = some x5 := by simpa using hfs 5 _ rfl
  have g6 : DataW.trod enc Tryz.prog W 0 (fun _ => true) held n 35 [v16] = some x6 := by simpa using hfs 6 _ rfl
  clear hfs h
  obtain ⟨a0, e0, rfl, w0⟩ := DataW.trod_string Tryz.underlying9 g0
  cases e0
  obtain ⟨a1, q1, b1, w1⟩ := read_expr n _ _ g1
  obtain ⟨a2, q2, b2, w2⟩ := read_expr n _ _ g2
  obtain ⟨a3, q3, b3, w3⟩ := slice_read (emb := Up.emb) (cl := Up.cells) (bulk := Up.bulk) (fit := Up.fit) (sz := 8) (by omega) Tryz.underlying34 (by kernel_rfl) Up.cells_ok g3 read_Up
  obtain ⟨a4, q4, b4, w4⟩ := slice_read (emb := Up.emb) (cl := Up.cells) (bulk := Up.bulk) (fit := Up.fit) (sz := 8) (by omega) Tryz.underlying34 (by kernel_rfl) Up.cells_ok g4 read_Up
  obtain ⟨a5, q5, b5, w5⟩ := slice_read (emb := Up.emb) (cl := Up.cells) (bulk := Up.bulk) (fit := Up.fit) (sz := 8) (by omega) Tryz.underlying34 (by kernel_rfl) Up.cells_ok g5 read_Up
  obtain ⟨a6, q6, b6, w6⟩ := slice_read (emb := Du.emb) (cl := Du.cells) (bulk := Du.bulk) (fit := Du.fit) (sz := 5) (by omega) Tryz.underlying35 (by kernel_rfl) Du.cells_ok g6 read_Du
  refine ⟨⟨a0.data.toList, a1, a2, ⟨a3, false⟩, ⟨a4, false⟩, ⟨a5, false⟩, ⟨a6, false⟩⟩, (VRL.append (.cons _ _ _ _ (.str _) .nil) (VRL.append q1 (VRL.append q2 (VRL.append q3 (VRL.append q4 (VRL.append q5 q6)))))), ?_, ⟨w1, w2, ⟨rfl, w3⟩, ⟨rfl, w4⟩, ⟨rfl, w5⟩, ⟨rfl, w6⟩⟩⟩
  simp only [Rt.bulk, List.map_cons, List.map_nil, Rows.uptoBulk, Rows.uptoBulkAll] at *
  simp at *
  omega
/-- an argument of that type -/
theorem open_Rt {H : Type} {enc : TypeId × Value → H} {W : World} {base : Nat} {held : Bool} {v : Value} {d : DataW H} {ps : List MemPlace} (hval : Value.okWide Tryz.prog W .any base 37 v) (h : DataW.Trod enc Tryz.prog W 0 (fun _ => true) held 37 v d ps) :
    ∃ r : Rt, VR (gh0 W) (.agg r.cells) v ∧ r.bulk ≤ Rows.uptoBulk d ∧ r.fit := by
  simp only [Value.okWide, Tryz.underlying37] at hval
  obtain ⟨cs, rfl, _, _⟩ := hval
  obtain ⟨fuel, h⟩ := h
  obtain ⟨r, h1, h2, h3⟩ := read_Rt fuel _ _ h
  exact ⟨r, .agg _ _ h1, h2, h3⟩
def Pl.bulk (r : Pl) : Nat := 1 + (sumB Dc.bulk r.decls.l + 1) + (sumB Rt.bulk r.rights.l + 1)
def Pl.fit (r : Pl) : Prop := (r.decls.tk = false ∧ ∀ e ∈ r.decls.l, e.fit) ∧ (r.rights.tk = false ∧ ∀ e ∈ r.rights.l, e.fit)
theorem read_Pl {H : Type} {enc : TypeId × Value → H} {W : World} {held : Bool} (fuel : Nat) (cs : List Value) (x : DataW H × List MemPlace) (h : DataW.trod enc Tryz.prog W 0 (fun _ => true) held fuel 25 cs = some x) :
    ∃ r : Pl, VRL (gh0 W) r.cells cs ∧ r.bulk ≤ Rows.uptoBulk x.1 ∧ r.fit := by
  obtain ⟨xs, n, hf, rfl, hl, hxl, hfs⟩ := DataW.trod_struct Tryz.underlying25 h
  rw [show Tryz.prog.cellsOf 25 = 2 by kernel_rfl] at hl
  match cs, hl with
  | [v0, v1], _ =>
  match xs, hxl with
  | [x0, x1], _ =>
  have g0 : DataW.trod enc Tryz.prog W 0 (fun _ => true) held n 22 [v0] = some x0 := by simpa using hfs 0 _ rfl
  have g1 : DataW.trod enc Tryz.prog W 0 (fun _ => true) held n 23 [v1] = some x1 := by simpa using hfs 1 _ rfl
  clear hfs h
  obtain ⟨a0, q0, b0, w0⟩ := slice_read (emb := Dc.emb) (cl := Dc.cells) (bulk := Dc.bulk) (fit := Dc.fit) (sz := 2) (by omega) Tryz.underlying22 (by kernel_rfl) Dc.cells_ok g0 read_Dc
  obtain ⟨a1, q1, b1, w1⟩ := slice_read (emb := Rt.emb) (cl := Rt.cells) (bulk := Rt.bulk) (fit := Rt.fit) (sz := 17) (by omega) Tryz.underlying23 (by kernel_rfl) Rt.cells_ok g1 read_Rt
  refine ⟨⟨⟨a0, false⟩, ⟨a1, false⟩⟩, (VRL.append q0 q1), ?_, ⟨⟨rfl, w0⟩, ⟨rfl, w1⟩⟩⟩
  simp only [Pl.bulk, List.map_cons, List.map_nil, Rows.uptoBulk, Rows.uptoBulkAll] at *
  simp at *
  omega
/-- an argument of that type -/
theorem open_Pl {H : Type} {enc : TypeId × Value → H} {W : World} {base : Nat} {held : Bool} {v : Value} {d : DataW H} {ps : List MemPlace} (hval : Value.okWide Tryz.prog W .any base 25 v) (h : DataW.Trod enc Tryz.prog W 0 (fun _ => true) held 25 v d ps) :
    ∃ r : Pl, VR (gh0 W) (.agg r.cells) v ∧ r.bulk ≤ Rows.uptoBulk d ∧ r.fit := by
  simp only [Value.okWide, Tryz.underlying25] at hval
  obtain ⟨cs, rfl, _, _⟩ := hval
  obtain ⟨fuel, h⟩ := h
  obtain ⟨r, h1, h2, h3⟩ := read_Pl fuel _ _ h
  exact ⟨r, .agg _ _ h1, h2, h3⟩
theorem x_bulk : ∀ x : X, 7 * x.size ≤ x.bulk := fun x => (xb x).1
where xb : ∀ x : X, 7 * x.size ≤ x.bulk ∧ True
  | .mk _ nm _ _ _ _ kids => by
    have : ∀ l : List X, (∀ y ∈ l, 7 * y.size ≤ y.bulk) → 7 * sizeL l ≤ bulkL l := fun l => by
      induction l with
      | nil => intro _; simp [sizeL, bulkL]
      | cons y l ih =>
        intro h
        have h1 := h y (by simp)
        have h2 := ih fun z hz => h z (by simp [hz])
        simp only [sizeL, bulkL]; omega
    have := this kids fun y hy => (xb y).1
    simp only [X.size, X.bulk]
    exact ⟨by omega, trivial⟩
theorem ups_bulk : ∀ l : List Up, 2 * upsSize l ≤ sumB Up.bulk l
  | [] => by simp [upsSize]
  | u :: l => by have := ups_bulk l; have := x_bulk u.to; simp only [upsSize, sumB, Up.bulk]; omega
theorem dus_bulk : ∀ l : List Du, 2 * l.length ≤ sumB Du.bulk l
  | [] => by simp
  | u :: l => by have := dus_bulk l; simp only [List.length_cons, sumB, Du.bulk]; omega
theorem rt_bulk (r : Rt) : 2 * r.size + 5 ≤ r.bulk := by
  have h1 := x_bulk r.pre
  have h2 := x_bulk r.on
  have h3 := ups_bulk r.before.l
  have h4 := ups_bulk r.during.l
  have h5 := ups_bulk r.after.l
  have h6 := dus_bulk r.duties.l
  have h7 := size_pos r.pre
  simp only [Rt.size, Rt.bulk]; omega
theorem rts_bulk : ∀ l : List Rt, 2 * rtsSize l ≤ sumB Rt.bulk l
  | [] => by simp [rtsSize]
  | r :: l => by have := rts_bulk l; have := rt_bulk r; simp only [rtsSize, sumB]; omega
theorem dcs_bulk : ∀ l : List Dc, 2 * dcsSize l ≤ sumB Dc.bulk l
  | [] => by simp [dcsSize]
  | d :: l => by have := dcs_bulk l; simp only [dcsSize, sumB, Dc.bulk]; omega
theorem pl_bulk (p : Pl) : 2 * p.size ≤ p.bulk := by
  have h1 := dcs_bulk p.decls.l
  have h2 := rts_bulk p.rights.l
  simp only [Pl.size, Pl.bulk]; omega
end Go.Proofs.YtcpoinfdnimanaaGreatDoor.PO
/- errors.As at the two targets that fault.Code and fault.Place hand it, by its contracts. Condition: the cell of errors.errorType. (After the kit's worked ToyasAs.) -/
namespace Go.Proofs.YtcpoinfdnimanaaGreatDoor.FA
set_option linter.unusedVariables false
set_option linter.unusedSimpArgs false
open Go Go.RowKit Go.Extern.Stop Go.Stop Go.Extern

/-- errors.As(nil, target). -/
theorem as_nil (t : Value) (w : World) :
    Calls Tryz.prog 58 #[.nilIface, t] w fun e w' => e = .returned (.bool false) ∧ w' = w := by
  go_enter Tryz.func58, Tryz.ntmps58
  go_wp2
  go_ret
  exact ⟨rfl, rfl⟩

theorem valueOf56 (t : Addr) (w : World) : (ReflectliteValue.unpack (.iface 104 (.pointer (some t)))).run Tryz.prog w
    = .ok (.agg #[.pointer (some ⟨2, 104, none⟩), .pointer (some ⟨w.heap.size, 0, none⟩), .int .u64 150]) (w.alloc (.cells #[.pointer (some t)] 104)) := by kernel_rfl
theorem valueOf51 (t : Addr) (w : World) : (ReflectliteValue.unpack (.iface 102 (.pointer (some t)))).run Tryz.prog w
    = .ok (.agg #[.pointer (some ⟨2, 102, none⟩), .pointer (some ⟨w.heap.size, 0, none⟩), .int .u64 150]) (w.alloc (.cells #[.pointer (some t)] 102)) := by kernel_rfl
theorem type56 (a : Addr) (w : World) : (ReflectliteValue.methodAny (ReflectliteValue.valueError "reflectlite.Value.Type" 0) (fun t _ _ _ => ReflectliteType.toType t) #[.agg #[.pointer (some ⟨2, 104, none⟩), .pointer (some a), .int .u64 150]]).run Tryz.prog w
    = .ok (.iface 179 (.agg #[.pointer (some ⟨2, 104, none⟩)])) w := by kernel_rfl
theorem type51 (a : Addr) (w : World) : (ReflectliteValue.methodAny (ReflectliteValue.valueError "reflectlite.Value.Type" 0) (fun t _ _ _ => ReflectliteType.toType t) #[.agg #[.pointer (some ⟨2, 102, none⟩), .pointer (some a), .int .u64 150]]).run Tryz.prog w
    = .ok (.iface 179 (.agg #[.pointer (some ⟨2, 102, none⟩)])) w := by kernel_rfl
theorem methodKind (h : Value) (w : World) : (Go.method 357 179 (.agg #[h]) "Kind").run Tryz.prog w = .ok (207, h) w := by kernel_rfl
theorem kind56 (w : World) : ((ReflectliteType.abiMethod fun t => (fun a : Nat => Value.int IntKind.u8 (a : Int)) <$> Rtype.kind t) #[.pointer (some ⟨2, 104, none⟩)]).run Tryz.prog w = .ok (.int .u8 22) w := by kernel_rfl
theorem kind51 (w : World) : ((ReflectliteType.abiMethod fun t => (fun a : Nat => Value.int IntKind.u8 (a : Int)) <$> Rtype.kind t) #[.pointer (some ⟨2, 102, none⟩)]).run Tryz.prog w = .ok (.int .u8 22) w := by kernel_rfl
theorem kind55 (w : World) : ((ReflectliteType.abiMethod fun t => (fun a : Nat => Value.int IntKind.u8 (a : Int)) <$> Rtype.kind t) #[.pointer (some ⟨2, 103, none⟩)]).run Tryz.prog w = .ok (.int .u8 22) w := by kernel_rfl
theorem kind30 (w : World) : ((ReflectliteType.abiMethod fun t => (fun a : Nat => Value.int IntKind.u8 (a : Int)) <$> Rtype.kind t) #[.pointer (some ⟨2, 27, none⟩)]).run Tryz.prog w = .ok (.int .u8 2) w := by kernel_rfl
theorem rlm (z : Sem Value) (f : TypeId → Addr → Nat → Nat → Sem Value) (v : Value) :
    ReflectliteValue.method z f #[v] = (do match ← ReflectliteValue.parts v with | none => z | some (t, a, fl) => f t a fl (fl % 32)) := rfl
theorem parts56 (a : Addr) (w : World) : (ReflectliteValue.parts (.agg #[.pointer (some ⟨2, 104, none⟩), .pointer (some a), .int .u64 150])).run Tryz.prog w = .ok (some (104, a, 150)) w := by kernel_rfl
theorem parts51 (a : Addr) (w : World) : (ReflectliteValue.parts (.agg #[.pointer (some ⟨2, 102, none⟩), .pointer (some a), .int .u64 150])).run Tryz.prog w = .ok (some (102, a, 150)) w := by kernel_rfl
theorem isNil56 (a p : Addr) (W : World) (ha : W.cell? a = some (.pointer (some p))) :
    (ReflectliteValue.method (ReflectliteValue.valueError "reflectlite.Value.IsNil" 0) ReflectliteValue.isNil #[.agg #[.pointer (some ⟨2, 104, none⟩), .pointer (some a), .int .u64 150]]).run Tryz.prog W = .ok (.bool false) W := by
  rw [rlm]
  simp only [Sem.run_bind, parts56, Result.andThen]
  simp [ReflectliteValue.isNil, loadVar, isAgg, underlying, Tryz.underlying104, ha, Result.andThen]
theorem isNil51 (a p : Addr) (W : World) (ha : W.cell? a = some (.pointer (some p))) :
    (ReflectliteValue.method (ReflectliteValue.valueError "reflectlite.Value.IsNil" 0) ReflectliteValue.isNil #[.agg #[.pointer (some ⟨2, 102, none⟩), .pointer (some a), .int .u64 150]]).run Tryz.prog W = .ok (.bool false) W := by
  rw [rlm]
  simp only [Sem.run_bind, parts51, Result.andThen]
  simp [ReflectliteValue.isNil, loadVar, isAgg, underlying, Tryz.underlying102, ha, Result.andThen]
theorem methodElem (h : Value) (w : World) : (Go.method 357 179 (.agg #[h]) "Elem").run Tryz.prog w = .ok (221, .agg #[h]) w := by kernel_rfl
theorem methodImplements (h : Value) (w : World) : (Go.method 357 179 (.agg #[h]) "Implements").run Tryz.prog w = .ok (222, .agg #[h]) w := by kernel_rfl
theorem methodAssignableTo (h : Value) (w : World) : (Go.method 357 179 (.agg #[h]) "AssignableTo").run Tryz.prog w = .ok (219, .agg #[h]) w := by kernel_rfl
theorem methodAs (h : Addr) (w : World) : (Go.method 357 103 (.pointer (some h)) "As").run Tryz.prog w = .ok (212, .pointer (some h)) w := by kernel_rfl
theorem elem56 (w : World) : (ReflectliteType.method ReflectliteType.elem #[.agg #[.pointer (some ⟨2, 104, none⟩)]]).run Tryz.prog w = .ok (.iface 179 (.agg #[.pointer (some ⟨2, 103, none⟩)])) w := by kernel_rfl
theorem elem51 (w : World) : (ReflectliteType.method ReflectliteType.elem #[.agg #[.pointer (some ⟨2, 102, none⟩)]]).run Tryz.prog w = .ok (.iface 179 (.agg #[.pointer (some ⟨2, 27, none⟩)])) w := by kernel_rfl
theorem implements55 (w : World) : (ReflectliteType.relation "Implements" ReflectliteType.implements_ #[.agg #[.pointer (some ⟨2, 103, none⟩)], .iface 179 (.agg #[.pointer (some ⟨2, 46, none⟩)])]).run Tryz.prog w = .ok (.bool true) w := by kernel_rfl
theorem implements30 (w : World) : (ReflectliteType.relation "Implements" ReflectliteType.implements_ #[.agg #[.pointer (some ⟨2, 27, none⟩)], .iface 179 (.agg #[.pointer (some ⟨2, 46, none⟩)])]).run Tryz.prog w = .ok (.bool true) w := by kernel_rfl
theorem typeOf55 (v : Value) (w : World) : (ReflectliteType.typeOf #[.iface 103 v]).run Tryz.prog w = .ok (.iface 179 (.agg #[.pointer (some ⟨2, 103, none⟩)])) w := by kernel_rfl
theorem assignable55 (w : World) : (ReflectliteType.relation "AssignableTo" ReflectliteType.assignableTo #[.agg #[.pointer (some ⟨2, 103, none⟩)], .iface 179 (.agg #[.pointer (some ⟨2, 103, none⟩)])]).run Tryz.prog w = .ok (.bool true) w := by kernel_rfl
theorem assignable30 (w : World) : (ReflectliteType.relation "AssignableTo" ReflectliteType.assignableTo #[.agg #[.pointer (some ⟨2, 103, none⟩)], .iface 179 (.agg #[.pointer (some ⟨2, 27, none⟩)])]).run Tryz.prog w = .ok (.bool false) w := by kernel_rfl
theorem valueOf55 (e : Addr) (w : World) : (ReflectliteValue.unpack (.iface 103 (.pointer (some e)))).run Tryz.prog w
    = .ok (.agg #[.pointer (some ⟨2, 103, none⟩), .pointer (some ⟨w.heap.size, 0, none⟩), .int .u64 150]) (w.alloc (.cells #[.pointer (some e)] 103)) := by kernel_rfl
theorem elemOf56 (w : World) : (Rtype.elem? 104).run Tryz.prog w = .ok (some 103) w := by kernel_rfl
theorem mk55 (p : Addr) (w : World) : (ReflectliteValue.mk 103 p ReflectliteValue.flagAddr).run Tryz.prog w = .ok (.agg #[.pointer (some ⟨2, 103, none⟩), .pointer (some p), .int .u64 406]) w := by kernel_rfl
theorem elemV56 (a p : Addr) (W : World) (ha : W.cell? a = some (.pointer (some p))) :
    (ReflectliteValue.method (ReflectliteValue.valueError "reflectlite.Value.Elem" 0) ReflectliteValue.elem #[.agg #[.pointer (some ⟨2, 104, none⟩), .pointer (some a), .int .u64 150]]).run Tryz.prog W
      = .ok (.agg #[.pointer (some ⟨2, 103, none⟩), .pointer (some p), .int .u64 406]) W := by
  rw [rlm]
  simp only [Sem.run_bind, parts56, Result.andThen]
  simp [ReflectliteValue.elem, loadVar, isAgg, underlying, Tryz.underlying104, ha, Result.andThen, elemOf56, mk55]
theorem rls (v x : Value) : ReflectliteValue.set #[v, x] = (do
    let (some (dst, a, fl), some (src, b, _)) := (← ReflectliteValue.parts v, ← ReflectliteValue.parts x)
      | unsupported (.noEntry "extern/(internal/reflectlite.Value).Set.zeroValue")
    if fl / ReflectliteValue.flagAddr % 2 == 0 then unsupported (.noEntry "extern/(internal/reflectlite.Value).Set.unaddressable")
    let val ← loadVar src b
    if ← Rtype.directlyAssignable dst src then storeVar dst a val
    else if ← Rtype.implements dst src then
      if (← Rtype.kind src) == 20 then
        match val with
        | .nilIface => unsupported (.noEntry "extern/reflectlite: a nil value of one interface type handed on as a value of another")
        | _ => storeVar dst a val
      else storeVar dst a (.iface src val)
    else panicString ("reflectlite.Set: value of type " ++ (← Rtype.spelt src) ++ " is not assignable to type " ++ (← Rtype.spelt dst))
    pure (.tuple #[])) := rfl
theorem parts55a (a : Addr) (w : World) : (ReflectliteValue.parts (.agg #[.pointer (some ⟨2, 103, none⟩), .pointer (some a), .int .u64 406])).run Tryz.prog w = .ok (some (103, a, 406)) w := by kernel_rfl
theorem parts55 (a : Addr) (w : World) : (ReflectliteValue.parts (.agg #[.pointer (some ⟨2, 103, none⟩), .pointer (some a), .int .u64 150])).run Tryz.prog w = .ok (some (103, a, 150)) w := by kernel_rfl
theorem direct55 (w : World) : (Rtype.directlyAssignable 103 103).run Tryz.prog w = .ok true w := by kernel_rfl
theorem set55 (ta b e : Addr) (old : Value) (W : World) (hb : W.cell? b = some (.pointer (some e))) (ht : W.cell? ta = some old) (hf : W.frozen? ta = false) :
    (ReflectliteValue.set #[.agg #[.pointer (some ⟨2, 103, none⟩), .pointer (some ta), .int .u64 406], .agg #[.pointer (some ⟨2, 103, none⟩), .pointer (some b), .int .u64 150]]).run Tryz.prog W
      = .ok (.tuple #[]) (W.setCell ta (.pointer (some e))) := by
  rw [rls]
  simp only [Sem.run_bind, parts55a, parts55, Result.andThen]
  simp [ReflectliteValue.flagAddr, loadVar, isAgg, underlying, Tryz.underlying103, hb, Result.andThen, direct55, storeVar, Value.cells, storeCells, Addr.add]
  rw [run_store Tryz.prog W ta _ _ (by rfl)]
  simp [ht, hf]
theorem hasAs (v : Value) (w : World) : (Instr.typeAssert (.iface 103 v) 46 184 true).run Tryz.prog w = .ok (.tuple #[.iface 103 v, .bool true]) w :=
  run_typeAssert_hasB Tryz.underlying184 (by kernel_rfl) v 27 w

end Go.Proofs.YtcpoinfdnimanaaGreatDoor.FA
/- errors.As at the two targets that fault.Code and fault.Place hand it: its walk. Condition: the cell of errors.errorType. (After the kit's worked ToyasAs.) -/
namespace Go.Proofs.YtcpoinfdnimanaaGreatDoor.FA
set_option linter.unusedVariables false
set_option linter.unusedSimpArgs false
open Go Go.RowKit Go.Extern.Stop Go.Stop Go.Extern
set_option maxRecDepth 100000
set_option maxHeartbeats 4000000

theorem isErrno (v : Value) (w : World) : (Instr.typeAssert (.iface 102 v) 20 102 true).run Tryz.prog w = .ok (.tuple #[v, .bool true]) w := by kernel_rfl
/-- (*Fault).As at a *Errno. -/
theorem fault_as (e t : Addr) (c : Int) (old : Value) (w : World) (he : w.cell? e = some (.int .i64 c)) (ht : w.cell? t = some old) (hf : w.frozen? t = false) :
    Calls Tryz.prog 212 #[.pointer (some e), .iface 102 (.pointer (some t))] w fun ev w' => ev = .returned (.bool true) ∧ w' = w.setCell t (.int .i64 c) := by
  have hE := isErrno
  go_enter Tryz.func212, Tryz.ntmps212
  go_wp2
  go_ret
  exact ⟨rfl, rfl⟩

/-- errors.As(a *Fault, a *Errno): the code is laid there. -/
theorem as_code (e t : Addr) (c : Int) (old : Value) (w : World) (hg : w.cell? ⟨0, 0, none⟩ = some (.iface 179 (.agg #[.pointer (some ⟨2, 46, none⟩)])))
    (he : w.cell? e = some (.int .i64 c)) (ht0 : w.cell? t = some old) (hf0 : w.frozen? t = false) :
    Calls Tryz.prog 58 #[.iface 103 (.pointer (some e)), .iface 102 (.pointer (some t))] w fun ev w' => ev = .returned (.bool true) ∧ w' = (((w.alloc (.cells #[.pointer (some t)] 102)).alloc (.cells #[.pointer (some ⟨2, 102, none⟩), .pointer (some ⟨w.heap.size, 0, none⟩), .int .u64 150] 147)).alloc (.cells #[.pointer (some ⟨2, 102, none⟩), .pointer (some ⟨w.heap.size, 0, none⟩), .int .u64 150] 147)).setCell t (.int .i64 c) := by
  have h34 := @run_callFunc_extern Tryz.prog 98 _ (fun args => ReflectliteValue.unpack (args.getD 0 (.tuple #[]))) Tryz.func98 (by kernel_rfl) (by kernel_rfl) (by kernel_rfl) (by kernel_rfl)
  have h35 := @run_callFunc_extern Tryz.prog 99 _ (ReflectliteValue.methodAny (ReflectliteValue.valueError "reflectlite.Value.Type" 0) (fun t _ _ _ => ReflectliteType.toType t)) Tryz.func99 (by kernel_rfl) (by kernel_rfl) (by kernel_rfl) (by kernel_rfl)
  have h36 := @run_callFunc_extern Tryz.prog 100 _ (ReflectliteValue.method (ReflectliteValue.valueError "reflectlite.Value.IsNil" 0) ReflectliteValue.isNil) Tryz.func100 (by kernel_rfl) (by kernel_rfl) (by kernel_rfl) (by kernel_rfl)
  have h97 := @run_callFunc_extern Tryz.prog 207 _ (ReflectliteType.abiMethod fun t => do pure (.int .u8 (← Rtype.kind t))) Tryz.func207 (by kernel_rfl) (by kernel_rfl) (by kernel_rfl) (by kernel_rfl)
  have h110 := @run_callFunc_extern Tryz.prog 221 _ (ReflectliteType.method ReflectliteType.elem) Tryz.func221 (by kernel_rfl) (by kernel_rfl) (by kernel_rfl) (by kernel_rfl)
  have h111 := @run_callFunc_extern Tryz.prog 222 _ (ReflectliteType.relation "Implements" ReflectliteType.implements_) Tryz.func222 (by kernel_rfl) (by kernel_rfl) (by kernel_rfl) (by kernel_rfl)
  have h49 := @run_callFunc_extern Tryz.prog 126 _ ReflectliteType.typeOf Tryz.func126 (by kernel_rfl) (by kernel_rfl) (by kernel_rfl) (by kernel_rfl)
  have h108 := @run_callFunc_extern Tryz.prog 219 _ (ReflectliteType.relation "AssignableTo" ReflectliteType.assignableTo) Tryz.func219 (by kernel_rfl) (by kernel_rfl) (by kernel_rfl) (by kernel_rfl)
  have tO := typeOf55
  have mA := methodAssignableTo
  have a30 := assignable30
  have f6 := valueOf51
  have f7 := type51
  have mK := methodKind
  have mE := methodElem
  have mI := methodImplements
  have mS := methodAs e
  have k51 := kind51
  have k30 := kind30
  have e51 := elem51
  have i30 := implements30
  have hA := hasAs
  have n8 := isNil51 ⟨w.heap.size, 0, none⟩ t ((w.alloc (.cells #[.pointer (some t)] 102)).alloc (.cells #[.pointer (some ⟨2, 102, none⟩), .pointer (some ⟨w.heap.size, 0, none⟩), .int .u64 150] 147)) (by simp)
  have hlt : 0 < w.heap.size := by
    rcases Nat.eq_zero_or_pos w.heap.size with h0 | h
    · simp [World.cell?, h0] at hg
    · exact h
  have hg2 : ((w.alloc (.cells #[.pointer (some t)] 102)).alloc (.cells #[.pointer (some ⟨2, 102, none⟩), .pointer (some ⟨w.heap.size, 0, none⟩), .int .u64 150] 147)).cell? ⟨0, 0, none⟩ = some (.iface 179 (.agg #[.pointer (some ⟨2, 46, none⟩)])) := by
    rw [World.cell?_alloc_lt _ _ ⟨0, 0, none⟩ (by simp), World.cell?_alloc_lt _ _ ⟨0, 0, none⟩ hlt]; exact hg
  have lt : ∀ {a : Addr} {v : Value}, w.cell? a = some v → a.block < w.heap.size := by
    intro a v h
    rcases Nat.lt_or_ge a.block w.heap.size with h' | h'
    · exact h'
    · simp [World.cell?, Array.getElem?_eq_none h'] at h
  have htl := lt ht0
  have hel := lt he
  have st := fault_as e t c old (((w.alloc (.cells #[.pointer (some t)] 102)).alloc (.cells #[.pointer (some ⟨2, 102, none⟩), .pointer (some ⟨w.heap.size, 0, none⟩), .int .u64 150] 147)).alloc (.cells #[.pointer (some ⟨2, 102, none⟩), .pointer (some ⟨w.heap.size, 0, none⟩), .int .u64 150] 147))
    (by rw [World.cell?_alloc_lt _ _ e (by simp; omega), World.cell?_alloc_lt _ _ e (by simp; omega), World.cell?_alloc_lt _ _ e hel]; exact he)
    (by rw [World.cell?_alloc_lt _ _ t (by simp; omega), World.cell?_alloc_lt _ _ t (by simp; omega), World.cell?_alloc_lt _ _ t htl]; exact ht0)
    (by rw [World.frozen?_alloc_old _ _ t (by simp; omega), World.frozen?_alloc_old _ _ t (by simp; omega), World.frozen?_alloc_old _ _ t (Nat.ne_of_lt htl)]; exact hf0)
  go_enter Tryz.func58, Tryz.ntmps58
  go_wp2
  refine wp_loop_rounds 1 ?_
  rw [rounds_succ]
  go_wp2_with (first | (go_at_call 212; refine st.mono ?_; rintro e w' ⟨rfl, rfl⟩))
  go_ret
  exact ⟨rfl, rfl⟩
end Go.Proofs.YtcpoinfdnimanaaGreatDoor.FA
/- errors.As at the two targets that fault.Code and fault.Place hand it: its second walk. Condition: the cell of errors.errorType. (After the kit's worked ToyasAs.) -/
namespace Go.Proofs.YtcpoinfdnimanaaGreatDoor.FA
set_option linter.unusedVariables false
set_option linter.unusedSimpArgs false
open Go Go.RowKit Go.Extern.Stop Go.Stop Go.Extern
set_option maxRecDepth 100000
set_option maxHeartbeats 4000000

/-- errors.As(a *Fault, a **Fault): the pointer is laid there. -/
theorem as_fault (e t : Addr) (old : Value) (w : World) (hg : w.cell? ⟨0, 0, none⟩ = some (.iface 179 (.agg #[.pointer (some ⟨2, 46, none⟩)]))) (ht0 : w.cell? t = some old) (hf0 : w.frozen? t = false) :
    Calls Tryz.prog 58 #[.iface 103 (.pointer (some e)), .iface 104 (.pointer (some t))] w fun ev w' => ev = .returned (.bool true) ∧ w' = ((((w.alloc (.cells #[.pointer (some t)] 104)).alloc (.cells #[.pointer (some ⟨2, 104, none⟩), .pointer (some ⟨w.heap.size, 0, none⟩), .int .u64 150] 147)).alloc (.cells #[.pointer (some ⟨2, 104, none⟩), .pointer (some ⟨w.heap.size, 0, none⟩), .int .u64 150] 147)).alloc (.cells #[.pointer (some e)] 103)).setCell t (.pointer (some e)) := by
  have hx34 := @run_callFunc_extern Tryz.prog 98 _ (fun args => ReflectliteValue.unpack (args.getD 0 (.tuple #[]))) Tryz.func98 (by kernel_rfl) (by kernel_rfl) (by kernel_rfl) (by kernel_rfl)
  have hx35 := @run_callFunc_extern Tryz.prog 99 _ (ReflectliteValue.methodAny (ReflectliteValue.valueError "reflectlite.Value.Type" 0) (fun t _ _ _ => ReflectliteType.toType t)) Tryz.func99 (by kernel_rfl) (by kernel_rfl) (by kernel_rfl) (by kernel_rfl)
  have hx36 := @run_callFunc_extern Tryz.prog 100 _ (ReflectliteValue.method (ReflectliteValue.valueError "reflectlite.Value.IsNil" 0) ReflectliteValue.isNil) Tryz.func100 (by kernel_rfl) (by kernel_rfl) (by kernel_rfl) (by kernel_rfl)
  have hx97 := @run_callFunc_extern Tryz.prog 207 _ (ReflectliteType.abiMethod fun t => do pure (.int .u8 (← Rtype.kind t))) Tryz.func207 (by kernel_rfl) (by kernel_rfl) (by kernel_rfl) (by kernel_rfl)
  have hx110 := @run_callFunc_extern Tryz.prog 221 _ (ReflectliteType.method ReflectliteType.elem) Tryz.func221 (by kernel_rfl) (by kernel_rfl) (by kernel_rfl) (by kernel_rfl)
  have hx111 := @run_callFunc_extern Tryz.prog 222 _ (ReflectliteType.relation "Implements" ReflectliteType.implements_) Tryz.func222 (by kernel_rfl) (by kernel_rfl) (by kernel_rfl) (by kernel_rfl)
  have hx49 := @run_callFunc_extern Tryz.prog 126 _ ReflectliteType.typeOf Tryz.func126 (by kernel_rfl) (by kernel_rfl) (by kernel_rfl) (by kernel_rfl)
  have hx108 := @run_callFunc_extern Tryz.prog 219 _ (ReflectliteType.relation "AssignableTo" ReflectliteType.assignableTo) Tryz.func219 (by kernel_rfl) (by kernel_rfl) (by kernel_rfl) (by kernel_rfl)
  have hx50 := @run_callFunc_extern Tryz.prog 127 _ (ReflectliteValue.method (ReflectliteValue.valueError "reflectlite.Value.Elem" 0) ReflectliteValue.elem) Tryz.func127 (by kernel_rfl) (by kernel_rfl) (by kernel_rfl) (by kernel_rfl)
  have hx51 := @run_callFunc_extern Tryz.prog 128 _ ReflectliteValue.set Tryz.func128 (by kernel_rfl) (by kernel_rfl) (by kernel_rfl) (by kernel_rfl)
  have tO := typeOf55
  have mA := methodAssignableTo
  have a25 := assignable55
  have v25 := valueOf55
  have f6 := valueOf56
  have f7 := type56
  have mK := methodKind
  have mE := methodElem
  have mI := methodImplements
  have k27 := kind56
  have k25 := kind55
  have e27 := elem56
  have i25 := implements55
  have n8 := isNil56 ⟨w.heap.size, 0, none⟩ t ((w.alloc (.cells #[.pointer (some t)] 104)).alloc (.cells #[.pointer (some ⟨2, 104, none⟩), .pointer (some ⟨w.heap.size, 0, none⟩), .int .u64 150] 147)) (by simp)
  have hlt : 0 < w.heap.size := by
    rcases Nat.eq_zero_or_pos w.heap.size with h0 | h
    · simp [World.cell?, h0] at hg
    · exact h
  have hg2 : ((w.alloc (.cells #[.pointer (some t)] 104)).alloc (.cells #[.pointer (some ⟨2, 104, none⟩), .pointer (some ⟨w.heap.size, 0, none⟩), .int .u64 150] 147)).cell? ⟨0, 0, none⟩ = some (.iface 179 (.agg #[.pointer (some ⟨2, 46, none⟩)])) := by
    rw [World.cell?_alloc_lt _ _ ⟨0, 0, none⟩ (by simp), World.cell?_alloc_lt _ _ ⟨0, 0, none⟩ hlt]; exact hg
  have htl : t.block < w.heap.size := by
    rcases Nat.lt_or_ge t.block w.heap.size with h | h
    · exact h
    · simp [World.cell?, Array.getElem?_eq_none h] at ht0
  have el := elemV56 ⟨w.heap.size, 0, none⟩ t (((w.alloc (.cells #[.pointer (some t)] 104)).alloc (.cells #[.pointer (some ⟨2, 104, none⟩), .pointer (some ⟨w.heap.size, 0, none⟩), .int .u64 150] 147)).alloc (.cells #[.pointer (some ⟨2, 104, none⟩), .pointer (some ⟨w.heap.size, 0, none⟩), .int .u64 150] 147)) (by rw [World.cell?_alloc_lt _ _ ⟨w.heap.size, 0, none⟩ (by simp; omega)]; simp)
  have st := set55 t ⟨w.heap.size + 1 + 1 + 1, 0, none⟩ e old ((((w.alloc (.cells #[.pointer (some t)] 104)).alloc (.cells #[.pointer (some ⟨2, 104, none⟩), .pointer (some ⟨w.heap.size, 0, none⟩), .int .u64 150] 147)).alloc (.cells #[.pointer (some ⟨2, 104, none⟩), .pointer (some ⟨w.heap.size, 0, none⟩), .int .u64 150] 147)).alloc (.cells #[.pointer (some e)] 103))
    (by rw [World.cell?_alloc_at _ _ _ _ (by simp)]; rfl)
    (by rw [World.cell?_alloc_lt _ _ t (by simp; omega), World.cell?_alloc_lt _ _ t (by simp; omega), World.cell?_alloc_lt _ _ t (by simp; omega), World.cell?_alloc_lt _ _ t htl]; exact ht0)
    (by rw [World.frozen?_alloc_old _ _ t (by simp; omega), World.frozen?_alloc_old _ _ t (by simp; omega), World.frozen?_alloc_old _ _ t (by simp; omega), World.frozen?_alloc_old _ _ t (Nat.ne_of_lt htl)]; exact hf0)
  go_enter Tryz.func58, Tryz.ntmps58
  go_wp2
  refine wp_loop_rounds 1 ?_
  rw [rounds_succ]
  go_wp2
  go_ret
  exact ⟨rfl, rfl⟩
end Go.Proofs.YtcpoinfdnimanaaGreatDoor.FA
/- errors.As by its contract, as the evaluator takes it. Condition: what the world holds when a call begins ('GL'). -/
namespace Go.Proofs.YtcpoinfdnimanaaGreatDoor.AE
set_option linter.unusedVariables false
set_option linter.unusedSimpArgs false
open Go Go.RowKit PT

theorem frozen0 {w : World} {b : Nat} {vs : Array Value} {ty : TypeId} (h : w.heap[b]? = some (.cells vs ty (0, 0))) (o : Nat) : w.frozen? ⟨b, o, none⟩ = false := frozen_of_heap h

/-- a store into a box of one cell, behind new blocks -/
theorem Inv.set1 {w0 : World} {B : Nat} {G : Gh} {S : St} {w w3 : World} (hi : Inv w0 B G S w) (hb : Below w.heap.size w w3) {d k : Nat} {ty : TypeId} {old new : AV} {v : Value}
    (hd : S.H[d]? = some ⟨ty, [old]⟩) (hty : ty < rowT) (hk : G.phi d = some k) (hv : VR G new v) (hc : new.isCell = true) (hs : new.sealed = true) :
    Inv w0 B G { S with H := S.H.set d ⟨ty, [new]⟩ } (w3.setCell ⟨k, 0, none⟩ v) ∧ Ext G w G (w3.setCell ⟨k, 0, none⟩ v) := by
  obtain ⟨hi3, he3⟩ := hi.grow hb
  let F : Fix := { w0 := w0, B := B, Ge := G, we := w, Se := S, cx := ⟨Tryz.prog, fun _ => false, 0⟩, ie := hi }
  have hp : Pre F ⟨fun _ => .junk, fun _ => (0, []), 0, S⟩ G w3 := ⟨hi3, he3, ⟨fun d hd => absurd rfl hd, fun d e k hd => absurd rfl hd⟩⟩
  have h := (store_heap (i := 0) (off := 0) (new := [new]) (cs := [new]) (nv := [v]) hp hd hty hk (by simp [wrc]) (by simp [AV.sealedL, hs]) (.cons _ _ _ _ hv .nil) (by
    intro x hx
    rw [List.mem_singleton] at hx
    subst hx
    exact hv.one hc) (by
    intro x hx
    rw [List.mem_singleton] at hx
    subst hx
    exact hc)).2.2
  exact ⟨h.inv, h.ext⟩

theorem asX_ok {args : List AV} {S S' : St} {r : Res} (h : asX args S = some (r, S')) :
    (∃ fn, Tryz.prog.funcs[58]? = some fn ∧ (fn.name == "runtime.NumGoroutine") = false ∧ fn.body.isSome = true) ∧
    ∀ (w0 : World) (B : Nat) (G : Gh) (w : World) (vs : Array Value), Inv w0 B G S w → VRL G args vs.toList →
      Calls Tryz.prog 58 vs w fun e w' => ∃ G', Inv w0 B G' S' w' ∧ Ext G w G' w' ∧ G'.nu = G.nu ∧ ResR G' r e := by
  refine ⟨⟨_, Tryz.func58, by decide +kernel, by decide +kernel⟩, fun w0 B G w vs hi hv => ?_⟩
  have hg := GL_below hi.gl hi.below
  unfold asX at h
  split at h
  · rename_i t
    cases h
    obtain ⟨a⟩ := vs
    simp only at hv
    cases hv with
    | cons _ v0 _ m h0 hm =>
      cases hm with
      | cons _ v1 _ m h1 hm =>
        cases hm
        cases h0
        refine (FA.as_nil v1 w).mono fun e w' ⟨he, hw⟩ => ?_
        subst he; subst hw
        exact ⟨G, hi, .refl G _, rfl, VR.bool _⟩
  · rename_i id d
    split at h
    · rename_i c a1 a2 x hb1 hb2
      cases h
      obtain ⟨a⟩ := vs
      simp only at hv
      cases hv with
      | cons _ v0 _ m h0 hm =>
        cases hm with
        | cons _ v1 _ m h1 hm =>
          cases hm
          cases h0 with
          | iface _ _ p0 h0 =>
            cases h1 with
            | iface _ _ p1 h1 =>
              cases h0 with
              | ptr _ _ b0 hp0 =>
                cases h1 with
                | ptr _ _ b1 hp1 =>
                  obtain ⟨b, vs, k1, k2, k3, k4, k5, k6, k7, k8⟩ := hi.box id _ hb1 (by simp [rowT])
                  obtain ⟨b', vs', j1, j2, j3, j4, j5, j6, j7, j8⟩ := hi.box d _ hb2 (by simp [rowT])
                  rw [hp0] at k1; cases k1
                  rw [hp1] at j1; cases j1
                  have hc : w.cell? ⟨b0, 0, none⟩ = some (.int .i64 c) := by
                    obtain ⟨v, e1, e2⟩ := k4.get (i := 0) rfl
                    cases e2
                    rw [cell_of_heap k3]
                    simpa using e1
                  obtain ⟨old, ho⟩ : ∃ old, w.cell? ⟨b1, 0, none⟩ = some old := by
                    obtain ⟨v, e1, e2⟩ := j4.get (i := 0) rfl
                    exact ⟨v, by rw [cell_of_heap j3]; simpa using e1⟩
                  refine (FA.as_code ⟨b0, 0, none⟩ ⟨b1, 0, none⟩ c old w hg hc ho (frozen0 j3 0)).mono fun e w' ⟨he, hw⟩ => ?_
                  subst he
                  have hbel : Below w.heap.size w (((w.alloc (.cells #[.pointer (some ⟨b1, 0, none⟩)] 102)).alloc (.cells #[.pointer (some ⟨2, 102, none⟩), .pointer (some ⟨w.heap.size, 0, none⟩), .int .u64 150] 147)).alloc (.cells #[.pointer (some ⟨2, 102, none⟩), .pointer (some ⟨w.heap.size, 0, none⟩), .int .u64 150] 147)) :=
                    (((Below.refl _ w).alloc (Nat.le_refl _) _).alloc (by simp) _).alloc (by simp; omega) _
                  obtain ⟨q1, q2⟩ := hi.set1 hbel (ty := 27) (v := .int .i64 c) hb2 (by decide) hp1 (.int .i64 c) rfl rfl
                  subst hw
                  exact ⟨G, q1, q2, rfl, VR.bool _⟩
    · cases h
  · rename_i id d
    split at h
    · rename_i x hb2
      cases h
      obtain ⟨a⟩ := vs
      simp only at hv
      cases hv with
      | cons _ v0 _ m h0 hm =>
        cases hm with
        | cons _ v1 _ m h1 hm =>
          cases hm
          cases h0 with
          | iface _ _ p0 h0 =>
            cases h1 with
            | iface _ _ p1 h1 =>
              cases h0 with
              | ptr _ _ b0 hp0 =>
                cases h1 with
                | ptr _ _ b1 hp1 =>
                  obtain ⟨b', vs', j1, j2, j3, j4, j5, j6, j7, j8⟩ := hi.box d _ hb2 (by simp [rowT])
                  rw [hp1] at j1; cases j1
                  obtain ⟨old, ho⟩ : ∃ old, w.cell? ⟨b1, 0, none⟩ = some old := by
                    obtain ⟨v, e1, e2⟩ := j4.get (i := 0) rfl
                    exact ⟨v, by rw [cell_of_heap j3]; simpa using e1⟩
                  refine (FA.as_fault ⟨b0, 0, none⟩ ⟨b1, 0, none⟩ old w hg ho (frozen0 j3 0)).mono fun e w' ⟨he, hw⟩ => ?_
                  subst he
                  have hbel : Below w.heap.size w ((((w.alloc (.cells #[.pointer (some ⟨b1, 0, none⟩)] 104)).alloc (.cells #[.pointer (some ⟨2, 104, none⟩), .pointer (some ⟨w.heap.size, 0, none⟩), .int .u64 150] 147)).alloc (.cells #[.pointer (some ⟨2, 104, none⟩), .pointer (some ⟨w.heap.size, 0, none⟩), .int .u64 150] 147)).alloc (.cells #[.pointer (some ⟨b0, 0, none⟩)] 103)) :=
                    ((((Below.refl _ w).alloc (Nat.le_refl _) _).alloc (by simp) _).alloc (by simp; omega) _).alloc (by simp; omega) _
                  obtain ⟨q1, q2⟩ := hi.set1 hbel (ty := 103) (v := .pointer (some ⟨b0, 0, none⟩)) hb2 (by decide) hp1 (.ptr id 0 b0 hp0) rfl rfl
                  subst hw
                  exact ⟨G, q1, q2, rfl, VR.bool _⟩
    · cases h
  · cases h
end Go.Proofs.YtcpoinfdnimanaaGreatDoor.AE
/- The environment is sound; what a row's list gives of the package variable. No condition. -/
namespace Go.Proofs.YtcpoinfdnimanaaGreatDoor.PS
set_option linter.unusedVariables false
set_option linter.unusedSimpArgs false
open Go AE EX PT
set_option maxRecDepth 100000

theorem env : EnvOK Tryz.prog E where
  mixed := by kernel_rfl
  code := fun f fn c hok hf hb => by
    have : f ∈ okL := by simpa [E] using hok
    simp only [okL, List.mem_cons, List.not_mem_nil, or_false] at this
    rcases this with rfl | rfl | rfl | rfl | rfl | rfl | rfl | rfl | rfl | rfl | rfl | rfl | rfl | rfl | rfl | rfl | rfl | rfl | rfl | rfl | rfl | rfl | rfl | rfl | rfl | rfl | rfl | rfl | rfl | rfl | rfl | rfl | rfl | rfl | rfl | rfl | rfl | rfl | rfl | rfl | rfl | rfl | rfl | rfl | rfl | rfl | rfl | rfl | rfl | rfl | rfl | rfl | rfl | rfl | rfl | rfl | rfl | rfl | rfl | rfl | rfl | rfl | rfl | rfl | rfl | rfl | rfl | rfl | rfl | rfl | rfl | rfl | rfl | rfl | rfl | rfl | rfl | rfl | rfl | rfl | rfl | rfl | rfl | rfl | rfl | rfl | rfl | rfl | rfl | rfl | rfl | rfl | rfl | rfl | rfl | rfl | rfl | rfl | rfl | rfl | rfl | rfl | rfl | rfl | rfl | rfl | rfl | rfl | rfl | rfl | rfl | rfl | rfl | rfl | rfl | rfl | rfl | rfl | rfl | rfl | rfl | rfl | rfl | rfl | rfl | rfl | rfl | rfl | rfl | rfl | rfl | rfl | rfl | rfl | rfl | rfl | rfl | rfl | rfl | rfl | rfl | rfl | rfl | rfl | rfl | rfl | rfl | rfl | rfl | rfl | rfl | rfl | rfl | rfl | rfl | rfl | rfl | rfl | rfl | rfl | rfl | rfl | rfl | rfl | rfl | rfl | rfl | rfl | rfl | rfl
    · exact codeOk_body (Tryz.func3.symm.trans hf) hb (by kernel_rfl)
    · exact codeOk_body (Tryz.func4.symm.trans hf) hb (by kernel_rfl)
    · exact codeOk_body (Tryz.func5.symm.trans hf) hb (by kernel_rfl)
    · exact codeOk_body (Tryz.func6.symm.trans hf) hb (by kernel_rfl)
    · exact codeOk_body (Tryz.func7.symm.trans hf) hb (by kernel_rfl)
    · exact codeOk_body (Tryz.func8.symm.trans hf) hb (by kernel_rfl)
    · exact codeOk_body (Tryz.func9.symm.trans hf) hb (by kernel_rfl)
    · exact codeOk_body (Tryz.func10.symm.trans hf) hb (by kernel_rfl)
    · exact codeOk_body (Tryz.func11.symm.trans hf) hb (by kernel_rfl)
    · exact codeOk_body (Tryz.func12.symm.trans hf) hb (by kernel_rfl)
    · exact codeOk_body (Tryz.func13.symm.trans hf) hb (by kernel_rfl)
    · exact codeOk_body (Tryz.func14.symm.trans hf) hb (by kernel_rfl)
    · exact codeOk_body (Tryz.func15.symm.trans hf) hb (by kernel_rfl)
    · exact codeOk_body (Tryz.func16.symm.trans hf) hb (by kernel_rfl)
    · exact codeOk_body (Tryz.func17.symm.trans hf) hb (by kernel_rfl)
    · exact codeOk_body (Tryz.func18.symm.trans hf) hb (by kernel_rfl)
    · exact codeOk_body (Tryz.func19.symm.trans hf) hb (by kernel_rfl)
    · exact codeOk_body (Tryz.func20.symm.trans hf) hb (by kernel_rfl)
    · exact codeOk_body (Tryz.func21.symm.trans hf) hb (by kernel_rfl)
    · exact codeOk_body (Tryz.func22.symm.trans hf) hb (by kernel_rfl)
    · exact codeOk_body (Tryz.func23.symm.trans hf) hb (by kernel_rfl)
    · exact codeOk_body (Tryz.func24.symm.trans hf) hb (by kernel_rfl)
    · exact codeOk_body (Tryz.func25.symm.trans hf) hb (by kernel_rfl)
    · exact codeOk_body (Tryz.func26.symm.trans hf) hb (by kernel_rfl)
    · exact codeOk_body (Tryz.func27.symm.trans hf) hb (by kernel_rfl)
    · exact codeOk_body (Tryz.func28.symm.trans hf) hb (by kernel_rfl)
    · exact codeOk_body (Tryz.func29.symm.trans hf) hb (by kernel_rfl)
    · exact codeOk_body (Tryz.func30.symm.trans hf) hb (by kernel_rfl)
    · exact codeOk_body (Tryz.func31.symm.trans hf) hb (by kernel_rfl)
    · exact codeOk_body (Tryz.func32.symm.trans hf) hb (by kernel_rfl)
    · exact codeOk_body (Tryz.func33.symm.trans hf) hb (by kernel_rfl)
    · exact codeOk_body (Tryz.func34.symm.trans hf) hb (by kernel_rfl)
    · exact codeOk_body (Tryz.func35.symm.trans hf) hb (by kernel_rfl)
    · exact codeOk_body (Tryz.func36.symm.trans hf) hb (by kernel_rfl)
    · exact codeOk_body (Tryz.func37.symm.trans hf) hb (by kernel_rfl)
    · exact codeOk_body (Tryz.func38.symm.trans hf) hb (by kernel_rfl)
    · exact codeOk_body (Tryz.func39.symm.trans hf) hb (by kernel_rfl)
    · exact codeOk_body (Tryz.func40.symm.trans hf) hb (by kernel_rfl)
    · exact codeOk_body (Tryz.func41.symm.trans hf) hb (by kernel_rfl)
    · exact codeOk_body (Tryz.func42.symm.trans hf) hb (by kernel_rfl)
    · exact codeOk_body (Tryz.func43.symm.trans hf) hb (by kernel_rfl)
    · exact codeOk_body (Tryz.func45.symm.trans hf) hb (by kernel_rfl)
    · exact codeOk_body (Tryz.func46.symm.trans hf) hb (by kernel_rfl)
    · exact codeOk_body (Tryz.func47.symm.trans hf) hb (by kernel_rfl)
    · exact codeOk_body (Tryz.func48.symm.trans hf) hb (by kernel_rfl)
    · exact codeOk_body (Tryz.func50.symm.trans hf) hb (by kernel_rfl)
    · exact codeOk_body (Tryz.func51.symm.trans hf) hb (by kernel_rfl)
    · exact codeOk_body (Tryz.func52.symm.trans hf) hb (by kernel_rfl)
    · exact codeOk_body (Tryz.func53.symm.trans hf) hb (by kernel_rfl)
    · exact codeOk_body (Tryz.func54.symm.trans hf) hb (by kernel_rfl)
    · exact codeOk_body (Tryz.func55.symm.trans hf) hb (by kernel_rfl)
    · exact codeOk_body (Tryz.func56.symm.trans hf) hb (by kernel_rfl)
    · exact codeOk_body (Tryz.func57.symm.trans hf) hb (by kernel_rfl)
    · exact codeOk_body (Tryz.func59.symm.trans hf) hb (by kernel_rfl)
    · exact codeOk_body (Tryz.func60.symm.trans hf) hb (by kernel_rfl)
    · exact codeOk_body (Tryz.func61.symm.trans hf) hb (by kernel_rfl)
    · exact codeOk_body (Tryz.func62.symm.trans hf) hb (by kernel_rfl)
    · exact codeOk_body (Tryz.func63.symm.trans hf) hb (by kernel_rfl)
    · exact codeOk_body (Tryz.func64.symm.trans hf) hb (by kernel_rfl)
    · exact codeOk_body (Tryz.func65.symm.trans hf) hb (by kernel_rfl)
    · exact codeOk_body (Tryz.func66.symm.trans hf) hb (by kernel_rfl)
    · exact codeOk_body (Tryz.func67.symm.trans hf) hb (by kernel_rfl)
    · exact codeOk_body (Tryz.func68.symm.trans hf) hb (by kernel_rfl)
    · exact codeOk_body (Tryz.func69.symm.trans hf) hb (by kernel_rfl)
    · exact codeOk_body (Tryz.func70.symm.trans hf) hb (by kernel_rfl)
    · exact codeOk_body (Tryz.func71.symm.trans hf) hb (by kernel_rfl)
    · exact codeOk_body (Tryz.func72.symm.trans hf) hb (by kernel_rfl)
    · exact codeOk_body (Tryz.func73.symm.trans hf) hb (by kernel_rfl)
    · exact codeOk_body (Tryz.func74.symm.trans hf) hb (by kernel_rfl)
    · exact codeOk_body (Tryz.func75.symm.trans hf) hb (by kernel_rfl)
    · exact codeOk_body (Tryz.func76.symm.trans hf) hb (by kernel_rfl)
    · exact codeOk_body (Tryz.func77.symm.trans hf) hb (by kernel_rfl)
    · exact codeOk_body (Tryz.func78.symm.trans hf) hb (by kernel_rfl)
    · exact codeOk_body (Tryz.func79.symm.trans hf) hb (by kernel_rfl)
    · exact codeOk_body (Tryz.func82.symm.trans hf) hb (by kernel_rfl)
    · exact codeOk_body (Tryz.func83.symm.trans hf) hb (by kernel_rfl)
    · exact codeOk_body (Tryz.func84.symm.trans hf) hb (by kernel_rfl)
    · exact codeOk_body (Tryz.func85.symm.trans hf) hb (by kernel_rfl)
    · exact codeOk_body (Tryz.func86.symm.trans hf) hb (by kernel_rfl)
    · exact codeOk_body (Tryz.func87.symm.trans hf) hb (by kernel_rfl)
    · exact codeOk_body (Tryz.func88.symm.trans hf) hb (by kernel_rfl)
    · exact codeOk_body (Tryz.func89.symm.trans hf) hb (by kernel_rfl)
    · exact codeOk_body (Tryz.func90.symm.trans hf) hb (by kernel_rfl)
    · exact codeOk_body (Tryz.func91.symm.trans hf) hb (by kernel_rfl)
    · exact codeOk_body (Tryz.func92.symm.trans hf) hb (by kernel_rfl)
    · exact codeOk_body (Tryz.func93.symm.trans hf) hb (by kernel_rfl)
    · exact codeOk_body (Tryz.func94.symm.trans hf) hb (by kernel_rfl)
    · exact codeOk_body (Tryz.func95.symm.trans hf) hb (by kernel_rfl)
    · exact codeOk_body (Tryz.func96.symm.trans hf) hb (by kernel_rfl)
    · exact codeOk_body (Tryz.func97.symm.trans hf) hb (by kernel_rfl)
    · exact codeOk_body (Tryz.func102.symm.trans hf) hb (by kernel_rfl)
    · exact codeOk_body (Tryz.func103.symm.trans hf) hb (by kernel_rfl)
    · exact codeOk_body (Tryz.func104.symm.trans hf) hb (by kernel_rfl)
    · exact codeOk_body (Tryz.func105.symm.trans hf) hb (by kernel_rfl)
    · exact codeOk_body (Tryz.func106.symm.trans hf) hb (by kernel_rfl)
    · exact codeOk_body (Tryz.func107.symm.trans hf) hb (by kernel_rfl)
    · exact codeOk_body (Tryz.func108.symm.trans hf) hb (by kernel_rfl)
    · exact codeOk_body (Tryz.func111.symm.trans hf) hb (by kernel_rfl)
    · exact codeOk_body (Tryz.func112.symm.trans hf) hb (by kernel_rfl)
    · exact codeOk_body (Tryz.func113.symm.trans hf) hb (by kernel_rfl)
    · exact codeOk_body (Tryz.func115.symm.trans hf) hb (by kernel_rfl)
    · exact codeOk_body (Tryz.func116.symm.trans hf) hb (by kernel_rfl)
    · exact codeOk_body (Tryz.func117.symm.trans hf) hb (by kernel_rfl)
    · exact codeOk_body (Tryz.func118.symm.trans hf) hb (by kernel_rfl)
    · exact codeOk_body (Tryz.func119.symm.trans hf) hb (by kernel_rfl)
    · exact codeOk_body (Tryz.func120.symm.trans hf) hb (by kernel_rfl)
    · exact codeOk_body (Tryz.func121.symm.trans hf) hb (by kernel_rfl)
    · exact codeOk_body (Tryz.func122.symm.trans hf) hb (by kernel_rfl)
    · exact codeOk_body (Tryz.func123.symm.trans hf) hb (by kernel_rfl)
    · exact codeOk_body (Tryz.func124.symm.trans hf) hb (by kernel_rfl)
    · exact codeOk_body (Tryz.func125.symm.trans hf) hb (by kernel_rfl)
    · exact codeOk_body (Tryz.func129.symm.trans hf) hb (by kernel_rfl)
    · exact codeOk_body (Tryz.func130.symm.trans hf) hb (by kernel_rfl)
    · exact codeOk_body (Tryz.func131.symm.trans hf) hb (by kernel_rfl)
    · exact codeOk_body (Tryz.func132.symm.trans hf) hb (by kernel_rfl)
    · exact codeOk_body (Tryz.func133.symm.trans hf) hb (by kernel_rfl)
    · exact codeOk_body (Tryz.func134.symm.trans hf) hb (by kernel_rfl)
    · exact codeOk_body (Tryz.func137.symm.trans hf) hb (by kernel_rfl)
    · exact codeOk_body (Tryz.func138.symm.trans hf) hb (by kernel_rfl)
    · exact codeOk_body (Tryz.func139.symm.trans hf) hb (by kernel_rfl)
    · exact codeOk_body (Tryz.func140.symm.trans hf) hb (by kernel_rfl)
    · exact codeOk_body (Tryz.func141.symm.trans hf) hb (by kernel_rfl)
    · exact codeOk_body (Tryz.func142.symm.trans hf) hb (by kernel_rfl)
    · exact codeOk_body (Tryz.func143.symm.trans hf) hb (by kernel_rfl)
    · exact codeOk_body (Tryz.func144.symm.trans hf) hb (by kernel_rfl)
    · exact codeOk_body (Tryz.func145.symm.trans hf) hb (by kernel_rfl)
    · exact codeOk_body (Tryz.func146.symm.trans hf) hb (by kernel_rfl)
    · exact codeOk_body (Tryz.func147.symm.trans hf) hb (by kernel_rfl)
    · exact codeOk_body (Tryz.func148.symm.trans hf) hb (by kernel_rfl)
    · exact codeOk_body (Tryz.func149.symm.trans hf) hb (by kernel_rfl)
    · exact codeOk_body (Tryz.func150.symm.trans hf) hb (by kernel_rfl)
    · exact codeOk_body (Tryz.func151.symm.trans hf) hb (by kernel_rfl)
    · exact codeOk_body (Tryz.func152.symm.trans hf) hb (by kernel_rfl)
    · exact codeOk_body (Tryz.func153.symm.trans hf) hb (by kernel_rfl)
    · exact codeOk_body (Tryz.func154.symm.trans hf) hb (by kernel_rfl)
    · exact codeOk_body (Tryz.func155.symm.trans hf) hb (by kernel_rfl)
    · exact codeOk_body (Tryz.func158.symm.trans hf) hb (by kernel_rfl)
    · exact codeOk_body (Tryz.func159.symm.trans hf) hb (by kernel_rfl)
    · exact codeOk_body (Tryz.func160.symm.trans hf) hb (by kernel_rfl)
    · exact codeOk_body (Tryz.func161.symm.trans hf) hb (by kernel_rfl)
    · exact codeOk_body (Tryz.func162.symm.trans hf) hb (by kernel_rfl)
    · exact codeOk_body (Tryz.func163.symm.trans hf) hb (by kernel_rfl)
    · exact codeOk_body (Tryz.func164.symm.trans hf) hb (by kernel_rfl)
    · exact codeOk_body (Tryz.func165.symm.trans hf) hb (by kernel_rfl)
    · exact codeOk_body (Tryz.func166.symm.trans hf) hb (by kernel_rfl)
    · exact codeOk_body (Tryz.func167.symm.trans hf) hb (by kernel_rfl)
    · exact codeOk_body (Tryz.func169.symm.trans hf) hb (by kernel_rfl)
    · exact codeOk_body (Tryz.func170.symm.trans hf) hb (by kernel_rfl)
    · exact codeOk_body (Tryz.func171.symm.trans hf) hb (by kernel_rfl)
    · exact codeOk_body (Tryz.func172.symm.trans hf) hb (by kernel_rfl)
    · exact codeOk_body (Tryz.func173.symm.trans hf) hb (by kernel_rfl)
    · exact codeOk_body (Tryz.func174.symm.trans hf) hb (by kernel_rfl)
    · exact codeOk_body (Tryz.func175.symm.trans hf) hb (by kernel_rfl)
    · exact codeOk_body (Tryz.func176.symm.trans hf) hb (by kernel_rfl)
    · exact codeOk_body (Tryz.func177.symm.trans hf) hb (by kernel_rfl)
    · exact codeOk_body (Tryz.func178.symm.trans hf) hb (by kernel_rfl)
    · exact codeOk_body (Tryz.func179.symm.trans hf) hb (by kernel_rfl)
    · exact codeOk_body (Tryz.func180.symm.trans hf) hb (by kernel_rfl)
    · exact codeOk_body (Tryz.func181.symm.trans hf) hb (by kernel_rfl)
    · exact codeOk_body (Tryz.func182.symm.trans hf) hb (by kernel_rfl)
    · exact codeOk_body (Tryz.func183.symm.trans hf) hb (by kernel_rfl)
    · exact codeOk_body (Tryz.func184.symm.trans hf) hb (by kernel_rfl)
    · exact codeOk_body (Tryz.func185.symm.trans hf) hb (by kernel_rfl)
    · exact codeOk_body (Tryz.func186.symm.trans hf) hb (by kernel_rfl)
    · exact codeOk_body (Tryz.func187.symm.trans hf) hb (by kernel_rfl)
    · exact codeOk_body (Tryz.func188.symm.trans hf) hb (by kernel_rfl)
    · exact codeOk_body (Tryz.func189.symm.trans hf) hb (by kernel_rfl)
    · exact codeOk_body (Tryz.func190.symm.trans hf) hb (by kernel_rfl)
    · exact codeOk_body (Tryz.func191.symm.trans hf) hb (by kernel_rfl)
    · exact codeOk_body (Tryz.func192.symm.trans hf) hb (by kernel_rfl)

  ext := fun f args S r S' hok h => by
    have h' : (if f = 114 then indexX args S else if f = 168 then mulX args S else if f = 58 then asX args S else if f = 81 then joinX args S else none) = some (r, S') := h
    split at h'
    · rename_i h1; subst h1; exact indexX_ok h'
    · split at h'
      · rename_i h1; subst h1; exact mulX_ok h'
      · split at h'
        · rename_i h1; subst h1; exact asX_ok h'
        · split at h'
          · rename_i h1; subst h1; exact joinX_ok h'
          · cases h'
/-! ### the package variable -/
theorem own : ownKnob Tryz.prog.godebug = none := by kernel_rfl
theorem laidB : laidOutB Tryz.prog = true := by kernel_rfl
theorem g_et : Tryz.prog.globalNamed "errors.errorType" = some 0 := by kernel_rfl
theorem g_rt : (Tryz.prog.cutTypes.find? (·.1 == "internal/reflectlite.rtype")).map (·.2) = some 179 := by kernel_rfl
theorem g_row : ((List.range 257).filter fun t => Tryz.prog.rowNamed t [101, 114, 114, 111, 114]) = [46] := by kernel_rfl
theorem g_size : Tryz.prog.types.size = 257 := by kernel_rfl
def laidL : List (String × DataW Unit) := [("errors.errorType", Rows.laid_errors_errorType)]
/-- what a row's list gives -/
theorem gl_of_laid {W : World} (h : laidMetH Tryz.prog laidL W) : GL W W.heap.size := by
  have h' : laidMet Tryz.prog [] W ∧ handlesMet Tryz.prog laidL W := h
  obtain ⟨name, u, ty, e1, e2, e3, e4, e5⟩ := h'.2 _ (List.mem_singleton.2 rfl)
  have en : name = [101, 114, 114, 111, 114] := (Option.some.inj e1).symm
  subst en
  obtain rfl := Option.some.inj (g_rt.symm.trans e2)
  have hm : ty ∈ (List.range 257).filter fun t => Tryz.prog.rowNamed t [101, 114, 114, 111, 114] := List.mem_filter.2 ⟨List.mem_range.2 (by rw [← g_size]; exact e3), e4⟩
  rw [g_row] at hm
  obtain rfl := List.mem_singleton.1 hm
  have hh : typeHandle Tryz.prog 46 = .pointer (some ⟨2, 46, none⟩) := by kernel_rfl
  rw [hh] at e5
  have hc : W.cell? ⟨0, 0, none⟩ = some (.iface 179 (.agg #[.pointer (some ⟨2, 46, none⟩)])) := by simpa using World.var?_cell g_et e5 0
  exact ⟨World.block_lt_of_cell? W _ hc, hc⟩
/-- a world that meets the list -/
noncomputable def laidWorld (os : Os) : World :=
  { World.holding Tryz.prog os ⟨#[], #[], []⟩ with heap := (World.holding Tryz.prog os ⟨#[], #[], []⟩).heap.modify 0 fun
      | .cells _ t frozen => .cells #[.iface 179 (.agg #[.pointer (some ⟨2, 46, none⟩)])] t frozen
      | o => o }
theorem laid_met (os : Os) (args : Array Value) : laidMetH Tryz.prog laidL ((laidWorld os).forCall (fun _ _ => 0) ⟨#[], args, []⟩).memory :=
  laidMetH_of_parts (laidMet_nil _ _) (by kernel_rfl)
end Go.Proofs.YtcpoinfdnimanaaGreatDoor.PS
