/- The text of an expression that may be; how long it is. No condition. -/
import Derived.Test.YtemggoaefohliaaPtE
namespace Go.Proofs.Ytemggoaefohliaa.PT
set_option linter.unusedVariables false
set_option linter.unusedSimpArgs false
open Go AE EX
set_option maxRecDepth 100000

def joinT (l : List (List UInt8)) : List UInt8 := Lib.join l [44, 32]
def binT (k : Int) : List (List UInt8) → List UInt8
  | [a, b] => 40 :: a ++ 32 :: signT k ++ 32 :: b ++ [41]
  | _ => []
mutual
/-- as the page says -/
def _root_.Go.Proofs.Ytemggoaefohliaa.EX.X.txt : X → List UInt8
  | .mk k nm n lo hi _ kids =>
    if k = 4 then 123 :: joinT (txtL kids) ++ [125] else if k = 11 then 45 :: joinT (txtL kids) else if k = 18 then [110, 111, 116, 32] ++ joinT (txtL kids) else
    if k = 12 ∨ k = 25 ∨ k = 22 ∨ k = 23 ∨ k = 24 then frontT k lo hi ++ 40 :: joinT (txtL kids) ++ [41] else
    if kids.length = 2 then binT k (txtL kids) else leafT k nm n hi
def txtL : List X → List (List UInt8)
  | [] => []
  | x :: l => x.txt :: txtL l
end
theorem txtL_map : ∀ l : List X, txtL l = l.map X.txt
  | [] => rfl
  | x :: l => by simp [txtL, txtL_map l]

theorem join_len (l : List (List UInt8)) : (joinT l).length ≤ Lib.lens l + 2 * l.length := by
  cases l with
  | nil => simp [joinT, Lib.join_nil]
  | cons x r => unfold joinT; rw [Lib.join_length]; simp; omega
theorem sign_len (k : Int) : (signT k).length ≤ 3 := by unfold signT; (repeat' split) <;> simp
theorem word_len (k : Int) : (wordT k).length ≤ 5 := by unfold wordT; (repeat' split) <;> simp
theorem front_len {k lo hi : Int} (h1 : in64 lo) (h2 : in64 hi) : (frontT k lo hi).length ≤ 50 := by
  have := word_len k
  have := spanT_len h1 h2
  unfold frontT
  split <;> simp <;> omega
theorem leaf_len {k n hi : Int} (nm : List UInt8) (h1 : in64 n) (h2 : in64 hi) : (leafT k nm n hi).length ≤ nm.length + 40 := by
  have := dec_len h1
  have := dec_len h2
  unfold leafT
  (repeat' split) <;> simp [quoteT] <;> omega
theorem bin_len (k : Int) : ∀ l : List (List UInt8), (binT k l).length ≤ Lib.lens l + 10
  | [a, b] => by have := sign_len k; simp [binT, Lib.lens]; omega
  | [] => by simp [binT]
  | [_] => by simp [binT]
  | _ :: _ :: _ :: _ => by simp [binT]
mutual
theorem txt_len : ∀ x : X, x.fit → x.txt.length + 2 ≤ 64 * x.bulk
  | .mk k nm n lo hi tk kids, hf => by
    obtain ⟨f1, f2, f3, f4, f5, f6⟩ := hf
    have h1 := txtL_len kids f6
    have h2 := join_len (txtL kids)
    have h3 := front_len (k := k) f3 f4
    have h4 := leaf_len (k := k) nm f2 f4
    have h5 := bin_len k (txtL kids)
    simp only [X.txt, X.bulk]
    (repeat' split) <;> simp <;> omega
theorem txtL_len : ∀ l : List X, fitL l → Lib.lens (txtL l) + 2 * (txtL l).length ≤ 64 * bulkL l
  | [], _ => by simp [txtL, Lib.lens]
  | x :: l, hf => by
    have h1 := txt_len x hf.1
    have h2 := txtL_len l hf.2
    have : 7 ≤ x.bulk := by cases x; simp [X.bulk]; omega
    simp only [txtL, bulkL, Lib.lens, List.map_cons, List.sum_cons, List.length_cons] at h2 ⊢
    omega
end

/-- it may be: as far as its text goes by it -/
inductive May : X → Prop where
  | set (nm n lo hi tk kids) : (∀ x ∈ kids, ∃ nm' n' lo' hi' tk', x = .mk 3 nm' n' lo' hi' tk' []) → May (.mk 4 nm n lo hi tk kids)
  | leaf (k nm n lo hi tk) : isLeaf k → (k = 2 → n = 0 ∨ n = 1) → May (.mk k nm n lo hi tk [])
  | one (k nm n lo hi tk a) : (k = 11 ∨ k = 12 ∨ k = 18 ∨ k = 22 ∨ k = 23 ∨ k = 25) → May a → May (.mk k nm n lo hi tk [a])
  | two (k nm n lo hi tk a b) : (k = 8 ∨ k = 9 ∨ k = 10 ∨ k = 14 ∨ k = 15 ∨ k = 16 ∨ k = 17 ∨ k = 19 ∨ k = 20 ∨ k = 24) → May a → May b → May (.mk k nm n lo hi tk [a, b])

theorem by9 : Try.prog.bytesOf 9 = 16 := by kernel_rfl
theorem sq56 : sliceQ Try.prog 56 = some 9 := by kernel_rfl
theorem u56 : Try.prog.underlying 56 = some (.slice 9) := by kernel_rfl
theorem z9 : zeroQ Try.prog 9 = some [.str []] := by kernel_rfl

theorem sizes_strs : ∀ l : List (List UInt8), sizesOk 1 (l.map AV.str) = true
  | [] => rfl
  | s :: l => by simp [sizesOk, AV.cells?, sizes_strs l]
theorem app0 (x : List UInt8) (S : St) : evAppend Try.prog [56, 56] (.slice [] .clip) (.slice [.str x] .clip) S = some (.slice [.str x] (.own S.T.length 1), ⟨S.H, S.T ++ [1]⟩) := by
  simp [evAppend, sq56, u56, elemsOf, z9, c9, by9, sizesOk, AV.cells?]
theorem app1 (l : List (List UInt8)) (x : List UInt8) (S : St) (hl : l.length ≤ 1099511627776) :
    evAppend Try.prog [56, 56] (.slice (l.map AV.str) (.own S.T.length l.length)) (.slice [.str x] .clip) ⟨S.H, S.T ++ [l.length]⟩ = some (.slice ((l ++ [x]).map AV.str) (.own S.T.length (l.length + 1)), ⟨S.H, S.T ++ [l.length + 1]⟩) := by
  simp [evAppend, sq56, u56, elemsOf, z9, c9, by9, sizes_strs, sizesOk, AV.cells?]
  omega

theorem ev_join (n : Nat) (l : List (List UInt8)) (tok : Tok) (S : St) (h1 : l.length ≤ 1099511627776) (h2 : (joinT l).length ≤ 1099511627776) :
    ev Try.prog E (n + 1) 56 [.slice (l.map AV.str) tok, .str [44, 32]] S = some (.ret (.str (joinT l)), S) := by
  have hE : E.ok 56 = false := rfl
  rw [ev, if_neg (by simp [hE])]
  unfold joinT at *
  simp [E, joinX, strsOf_map, show l.length ≤ 140737488355328 by omega, show (Lib.join l [44, 32]).length ≤ 140737488355328 by omega]
end Go.Proofs.Ytemggoaefohliaa.PT
