/- One text just where they are alike: small parts. No condition. -/
import Derived.Test.YtemggoaefohliaaPuB
namespace Go.Proofs.Ytemggoaefohliaa.PT
set_option linter.unusedVariables false
set_option linter.unusedSimpArgs false
open Go AE EX
set_option maxRecDepth 100000

/-- it doesn't begin so -/
def stops (p : UInt8 → Bool) : List UInt8 → Prop
  | [] => True
  | c :: _ => p c = false
theorem span_inj (p : UInt8 → Bool) : ∀ (a b r s : List UInt8), a.all p = true → b.all p = true → stops p r → stops p s → a ++ r = b ++ s → a = b ∧ r = s
  | [], [], r, s, _, _, _, _, h => ⟨rfl, by simpa using h⟩
  | [], y :: b, r, s, _, hb, hr, _, h => by
    simp at h
    subst h
    simp [stops] at hr
    simp [hr] at hb
  | x :: a, [], r, s, ha, _, _, hs, h => by
    simp at h
    subst h
    simp [stops] at hs
    simp [hs] at ha
  | x :: a, y :: b, r, s, ha, hb, hr, hs, h => by
    simp at h ha hb
    obtain ⟨rfl, h⟩ := h
    obtain ⟨rfl, rfl⟩ := span_inj p a b r s (by simpa using ha.2) (by simpa using hb.2) hr hs h
    exact ⟨rfl, rfl⟩

def isDig (c : UInt8) : Bool := decide (48 ≤ c.toNat) && decide (c.toNat ≤ 57)
def val (l : List UInt8) : Nat := l.foldl (fun v c => v * 10 + (c.toNat - 48)) 0
theorem val_snoc (l : List UInt8) (c : UInt8) : val (l ++ [c]) = val l * 10 + (c.toNat - 48) := by simp [val]
theorem val_dg (u : Nat) : val (dg u) = u := by
  induction u using Nat.strongRecOn with
  | _ u ih =>
  by_cases h : u < 10
  · rw [dg_lt h]; simp [val, dig_nat h]
  · rw [dg_ge h, val_snoc, ih _ (by omega), dig_nat (by omega)]; omega
theorem dg_inj {u v : Nat} (h : dg u = dg v) : u = v := by rw [← val_dg u, ← val_dg v, h]
theorem dig_isDig {d : Nat} (h : d < 10) : isDig (dig d) = true := by
  unfold isDig; rw [dig_nat h]; simp; omega
theorem dg_all (u : Nat) : (dg u).all isDig = true := by
  induction u using Nat.strongRecOn with
  | _ u ih =>
  by_cases h : u < 10
  · rw [dg_lt h]; simp [dig_isDig h]
  · rw [dg_ge h, List.all_append, ih _ (by omega)]; simp [dig_isDig (show u % 10 < 10 by omega)]
theorem dec_pos {a : Int} (h : 0 ≤ a) : dec a = dg a.natAbs := by unfold dec; rw [if_neg (by omega)]
theorem dec_inj {a b : Int} (ha : 0 ≤ a) (hb : 0 ≤ b) {r s : List UInt8} (hr : stops isDig r) (hs : stops isDig s) (h : dec a ++ r = dec b ++ s) : a = b ∧ r = s := by
  rw [dec_pos ha, dec_pos hb] at h
  obtain ⟨h1, h2⟩ := span_inj isDig _ _ _ _ (dg_all _) (dg_all _) hr hs h
  have := dg_inj h1
  exact ⟨by omega, h2⟩

theorem head_tail {c : Int} (h : headB c = true) : tailB c = true := by simp [tailB, h]
theorem name_all {s : List UInt8} (h : nameB s = true) : s.all tl = true := by
  cases s with
  | nil => simp [nameB] at h
  | cons c r =>
    simp only [nameB, Bool.and_eq_true] at h
    rw [List.all_cons, h.2, Bool.and_true]
    exact head_tail h.1.2
theorem name_inj {a b r s : List UInt8} (ha : nameB a = true) (hb : nameB b = true) (hr : stops tl r) (hs : stops tl s) (h : a ++ r = b ++ s) : a = b ∧ r = s :=
  span_inj tl a b r s (name_all ha) (name_all hb) hr hs h
def notQ (c : UInt8) : Bool := c != 34
theorem plain_all {s : List UInt8} (h : plainB s = true) : s.all notQ = true := by
  simp only [plainB, Bool.and_eq_true] at h
  rw [List.all_eq_true] at h ⊢
  intro c hc
  have := h.2 c hc
  simp [badB] at this
  simp [notQ]
  intro e
  subst e
  exact this.1 rfl
theorem plain_inj {a b r s : List UInt8} (ha : plainB a = true) (hb : plainB b = true) (h : a ++ 34 :: r = b ++ 34 :: s) : a = b ∧ r = s := by
  obtain ⟨h1, h2⟩ := span_inj notQ a b (34 :: r) (34 :: s) (plain_all ha) (plain_all hb) rfl rfl h
  exact ⟨h1, by simpa using h2⟩

/-- what may stand behind an expression: nothing, or a blank, a comma, a bracket's end -/
def delim : List UInt8 → Prop
  | [] => True
  | c :: _ => c = 32 ∨ c = 41 ∨ c = 44 ∨ c = 125
theorem delim_tl {r : List UInt8} (h : delim r) : stops tl r := by
  cases r with
  | nil => trivial
  | cons c r => rcases h with rfl | rfl | rfl | rfl <;> rfl
theorem delim_dig {r : List UInt8} (h : delim r) : stops isDig r := by
  cases r with
  | nil => trivial
  | cons c r => rcases h with rfl | rfl | rfl | rfl <;> rfl
end Go.Proofs.Ytemggoaefohliaa.PT
