/- One text just where they are alike: sets; which kind. No condition. -/
import Derived.Test.YtemggoaefohliaaPuC
namespace Go.Proofs.Ytemggoaefohliaa.PT
set_option linter.unusedVariables false
set_option linter.unusedSimpArgs false
open Go AE EX
set_option maxRecDepth 100000

def qs (l : List (List UInt8)) : List UInt8 := joinT (l.map quoteT)
theorem qs_nil : qs [] = [] := rfl
theorem qs_one (a : List UInt8) : qs [a] = quoteT a := by simp [qs, joinT, Lib.join_one]
theorem qs_cons (a b : List UInt8) (t : List (List UInt8)) : qs (a :: b :: t) = quoteT a ++ 44 :: 32 :: qs (b :: t) := by
  simp only [qs, joinT, List.map_cons, Lib.join_cons, Lib.joinTail]
  simp
theorem qs_inj : ∀ (l l' : List (List UInt8)) (r s : List UInt8), (∀ a ∈ l, plainB a = true) → (∀ a ∈ l', plainB a = true) → qs l ++ 125 :: r = qs l' ++ 125 :: s → l = l' ∧ r = s
  | [], [], r, s, _, _, h => by simpa [qs_nil] using h
  | [], [a], r, s, _, _, h => by simp [qs_nil, qs_one, quoteT] at h
  | [], a :: b :: t, r, s, _, _, h => by simp [qs_nil, qs_cons, quoteT] at h
  | [a], [], r, s, _, _, h => by simp [qs_nil, qs_one, quoteT] at h
  | a :: b :: t, [], r, s, _, _, h => by simp [qs_nil, qs_cons, quoteT] at h
  | [a], [a'], r, s, h1, h2, h => by
    simp [qs_one, quoteT] at h
    obtain ⟨rfl, h⟩ := plain_inj (h1 a (by simp)) (h2 a' (by simp)) h
    simp at h
    exact ⟨rfl, h⟩
  | [a], a' :: b' :: t', r, s, h1, h2, h => by
    simp [qs_one, qs_cons, quoteT] at h
    obtain ⟨rfl, h⟩ := plain_inj (h1 a (by simp)) (h2 a' (by simp)) h
    simp at h
  | a :: b :: t, [a'], r, s, h1, h2, h => by
    simp [qs_one, qs_cons, quoteT] at h
    obtain ⟨rfl, h⟩ := plain_inj (h1 a (by simp)) (h2 a' (by simp)) h
    simp at h
  | a :: b :: t, a' :: b' :: t', r, s, h1, h2, h => by
    simp [qs_cons, quoteT] at h
    obtain ⟨rfl, h⟩ := plain_inj (h1 a (by simp)) (h2 a' (by simp)) h
    simp at h
    obtain ⟨e, h⟩ := qs_inj (b :: t) (b' :: t') r s (fun x hx => h1 x (by simp [hx])) (fun x hx => h2 x (by simp [hx])) h
    exact ⟨by rw [e], h⟩

/-- a set's kids are their names -/
def nmOf : X → List UInt8 | .mk _ nm _ _ _ _ _ => nm
theorem set_txt : ∀ ks : List X, (∀ x ∈ ks, SetKid x) → txtL ks = (ks.map nmOf).map quoteT
  | [], _ => rfl
  | x :: ks, h => by
    obtain ⟨nm, tk, rfl, _⟩ := h x (by simp)
    simp [txtL, set_txt ks (fun y hy => h y (by simp [hy])), nmOf, X.txt, leafT]
theorem set_same : ∀ ks ks' : List X, (∀ x ∈ ks, SetKid x) → (∀ x ∈ ks', SetKid x) → ks.map nmOf = ks'.map nmOf → ks.length = ks'.length ∧ sameL ks ks' = true
  | [], [], _, _, _ => ⟨rfl, rfl⟩
  | [], _ :: _, _, _, h => by simp at h
  | _ :: _, [], _, _, h => by simp at h
  | x :: ks, y :: ks', h1, h2, h => by
    obtain ⟨nm, tk, rfl, _⟩ := h1 x (by simp)
    obtain ⟨nm', tk', rfl, _⟩ := h2 y (by simp)
    simp [nmOf] at h
    obtain ⟨rfl, h⟩ := h
    obtain ⟨e1, e2⟩ := set_same ks ks' (fun z hz => h1 z (by simp [hz])) (fun z hz => h2 z (by simp [hz])) h
    simp [sameL, X.same, e1, e2]

/-- which kind, by how a text begins -/
def tag : List UInt8 → Nat
  | [] => 0
  | c :: t => if isDig c then 1 else if c = 123 then 4 else if c = 45 then 11 else if c = 34 then 3 else if c = 40 then 100 else if c = 108 then 12 else if c = 112 then 25 else if c = 104 then 23 else if c = 102 then 2 else if c = 97 then 21 else
    if c = 110 then (if t.take 2 = [111, 116] then 18 else 7) else if c = 111 then (if t.head? = some 110 then 22 else 6) else if c = 115 then (if t.head? = some 105 then 24 else 5) else if c = 116 then (if t.head? = some 114 then 2 else 13) else 0
def cls (k : Int) : Nat := if k = 8 ∨ k = 9 ∨ k = 10 ∨ k = 14 ∨ k = 15 ∨ k = 16 ∨ k = 17 ∨ k = 19 ∨ k = 20 then 100 else k.toNat

theorem tag_txt (k : Int) (nm : List UInt8) (n lo hi : Int) (tk : Bool) (kids : List X) (hm : May (.mk k nm n lo hi tk kids)) (hf : Fits k nm n lo hi) (r : List UInt8) : tag ((X.mk k nm n lo hi tk kids).txt ++ r) = cls k := by
  cases hm with
  | set _ _ _ _ _ _ _ => simp [X.txt, tag, cls, isDig]
  | leaf _ _ _ _ _ _ hk hb =>
    rcases hk with rfl | rfl | rfl | rfl | rfl | rfl | rfl | rfl
    · have h0 := hf.int rfl
      have e : (X.mk 1 nm n lo hi tk []).txt = dec n := by simp [X.txt, leafT]
      rw [e, dec_pos h0]
      cases hd : dg n.natAbs with
      | nil => have := dg_pos n.natAbs; rw [hd] at this; simp at this
      | cons c t =>
        have := dg_all n.natAbs
        rw [hd] at this
        simp at this
        simp [tag, this.1, cls]
    · rcases hb rfl with rfl | rfl <;> simp [X.txt, leafT, tag, cls, isDig]
    · simp [X.txt, leafT, tag, cls, isDig, quoteT]
    · simp [X.txt, leafT, tag, cls, isDig]
    · simp [X.txt, leafT, tag, cls, isDig]
    · simp [X.txt, leafT, tag, cls, isDig]
    · simp [X.txt, leafT, tag, cls, isDig]
    · simp [X.txt, leafT, tag, cls, isDig]
  | one _ _ _ _ _ _ a hk _ =>
    rcases hk with rfl | rfl | rfl | rfl | rfl | rfl <;> simp [X.txt, frontT, wordT, tag, cls, isDig]
  | two _ _ _ _ _ _ a b hk _ _ =>
    rcases hk with rfl | rfl | rfl | rfl | rfl | rfl | rfl | rfl | rfl | rfl <;> simp [X.txt, txtL, binT, frontT, wordT, tag, cls, isDig]
end Go.Proofs.Ytemggoaefohliaa.PT
