/- Joined: DqJ, PbA, PbB, DqH, PbC, DpO, DpP, DqC, DqD, DqP, PbD, PbE, PcG, PcH, AlP, SmC, DaA, DaB, DaC, DaD. No condition beyond those of its lemmas. -/
import Derived.Test.YtmhidempoabehaaGreatDoorJsF
import Derived.Test.YtmhidempoabehaaGreatDoorJsE
import Derived.Test.YtmhidempoabehaaGreatDoorJsD
import Derived.Test.YtmhidempoabehaaGreatDoorProg
import Derived.WalkKit
import Derived.LaidEql
import Derived.Stop.Asserts
import Derived.RowKitTokens
import Derived.KernelRfl
/- Words, one behind the other, lexed. No condition. -/
namespace Go.Proofs.YtmhidempoabehaaGreatDoor.LX
set_option linter.unusedVariables false
set_option linter.unusedSimpArgs false
open Go AE EX PT NF PS
set_option maxRecDepth 100000

/-- a word ahead of what is lexed -/
def consL (t : Tk) : Except (Int × Nat) (List Tk) → Except (Int × Nat) (List Tk)
  | .ok l => .ok (t :: l)
  | .error e => .error e
theorem lexU_word {f : Nat} {c : UInt8} {u : List UInt8} {p to : Nat} {t : Tk} (h : nextR (c :: u) 0 c = some (.word t to)) : lexU (f + 1) (c :: u) p = consL (t.at p) (lexU f ((c :: u).drop to) (p + to)) := by
  rw [lexU, h]
  simp only
  split <;> rename_i h1 <;> simp [consL, h1]
theorem lexU_sp (f : Nat) (u : List UInt8) (p : Nat) : lexU (f + 1) (32 :: u) p = lexU f u (p + 1) := by
  rw [lexU]
  have : nextR (32 :: u) 0 32 = none := by
    unfold nextR
    rw [if_pos (by decide)]
  rw [this]
theorem lexU_nil (f : Nat) (p : Nat) : lexU (f + 1) [] p = .ok [⟨5, [], 0, p⟩] := rfl

theorem head_facts (c : UInt8) (h : headB (c.toNat : Int) = true) : spaces.contains c = false ∧ tl c = true := by
  refine ⟨?_, by simp [tl, tailB, h]⟩
  cases hc : spaces.contains c with
  | false => rfl
  | true =>
    have hm := List.contains_iff_mem.1 hc
    simp only [spaces, List.mem_cons, List.not_mem_nil, or_false] at hm
    rcases hm with rfl | rfl | rfl | rfl <;> (exfalso; revert h; decide)
/-- a name, ahead of what is none -/
theorem lexU_name {f : Nat} {w rest : List UInt8} {p : Nat} (hw : nameB w = true) (hr : ∀ c v, rest = c :: v → tl c = false) : lexU (f + 1) (w ++ rest) p = consL ⟨1, w, 0, p⟩ (lexU f rest (p + w.length)) := by
  cases w with
  | nil => cases hw
  | cons c r =>
    simp only [nameB, Bool.and_eq_true, decide_eq_true_eq] at hw
    obtain ⟨⟨h1, h2⟩, h3⟩ := hw
    obtain ⟨h4, h5⟩ := head_facts c h2
    have htw : ((c :: r) ++ rest).takeWhile tl = c :: r := by
      have : ∀ l : List UInt8, l.all tl = true → (l ++ rest).takeWhile tl = l := by
        intro l
        induction l with
        | nil =>
          intro _
          cases rest with
          | nil => rfl
          | cons d v => simp [List.takeWhile, hr d v rfl]
        | cons d l ih =>
          intro hl
          simp only [List.all_cons, Bool.and_eq_true] at hl
          simp only [List.cons_append, List.takeWhile, hl.1, ih hl.2]
      exact this (c :: r) (by simp [h5, h3])
    have hf : far (c :: (r ++ rest)) 0 = r.length + 1 := by
      simp only [far, List.drop_zero]
      have := congrArg List.length htw
      simp only [List.cons_append, List.length_cons] at this
      omega
    have hn : nextR (c :: (r ++ rest)) 0 c = some (.word ⟨1, c :: r, 0, 0⟩ (r.length + 1)) := by
      unfold nextR
      rw [if_neg (by rw [h4]; simp)]
      simp only [h2, if_true]
      unfold namedR
      rw [hf, if_neg (by omega)]
      simp only [sub, List.drop_zero, List.take_succ_cons]
      have : (r ++ rest).take r.length = r := by simp
      rw [this]
      rfl
    rw [List.cons_append, lexU_word hn]
    simp [Tk.at]
/-- a sign of one letter -/
theorem lexU_sign {f : Nat} {c : UInt8} {rest : List UInt8} {p : Nat} (hc : c ∈ signsT) (hr : c = 60 → ∀ v, rest ≠ 61 :: v) : lexU (f + 1) (c :: rest) p = consL ⟨4, [c], 0, p⟩ (lexU f rest (p + 1)) := by
  have hs : sgAt (c :: rest) 0 = none := by
    have h1 : c ≠ 58 ∧ c ≠ 33 := by
      simp only [signsT, List.mem_cons, List.not_mem_nil, or_false] at hc
      rcases hc with rfl | rfl | rfl | rfl | rfl | rfl | rfl | rfl | rfl | rfl | rfl | rfl | rfl | rfl <;> decide
    have p1 : pre (c :: rest) [58, 61] = false := by
      cases rest <;> simp [pre, h1.1]
    have p2 : pre (c :: rest) [33, 61] = false := by
      cases rest <;> simp [pre, h1.2]
    have p3 : pre (c :: rest) [60, 61] = false := by
      cases rest with
      | nil => simp [pre]
      | cons d v =>
        simp only [pre, List.take_succ_cons, List.take_zero, List.length_cons, List.length_nil]
        by_cases h6 : c = 60
        · have : d ≠ 61 := fun e => hr h6 v (by rw [e])
          simp [this]
        · simp [h6]
    simp only [sgAt, List.drop_zero, sgL, List.find?_cons, p1, p2, p3, List.find?_nil]
  have hn : nextR (c :: rest) 0 c = some (.word ⟨4, [c], 0, 0⟩ 1) := by
    have h3 : ∀ c ∈ signsT, spaces.contains c = false ∧ headB (c.toNat : Int) = false ∧ digB (c.toNat : Int) = false ∧ ((c.toNat : Int) == 34) = false ∧ signsT.contains c = true := by decide
    obtain ⟨k1, k2, k3, k4, k5⟩ := h3 c hc
    unfold nextR signedR
    simp only [k1, k2, k3, k4, hs, List.getElem?_cons_zero, k5, if_true, Bool.false_eq_true, if_false]
    rfl
  rw [lexU_word hn]
  simp [Tk.at]
/-- a sign of two letters -/
theorem lexU_sign2 {f : Nat} {q : List UInt8} {rest : List UInt8} {p : Nat} (hq : q ∈ sgL) : lexU (f + 1) (q ++ rest) p = consL ⟨4, q, 0, p⟩ (lexU f rest (p + 2)) := by
  simp only [sgL, List.mem_cons, List.not_mem_nil, or_false] at hq
  have key : ∀ c, c = 58 ∨ c = 33 ∨ c = 60 → nextR (c :: 61 :: rest) 0 c = some (.word ⟨4, [c, 61], 0, 0⟩ 2) := by
    intro c hc
    have hs : sgAt (c :: 61 :: rest) 0 = some [c, 61] := by
      rcases hc with rfl | rfl | rfl <;> simp [sgAt, sgL, pre]
    have h3 : spaces.contains c = false ∧ headB (c.toNat : Int) = false ∧ digB (c.toNat : Int) = false ∧ ((c.toNat : Int) == 34) = false := by
      rcases hc with rfl | rfl | rfl <;> decide
    obtain ⟨k1, k2, k3, k4⟩ := h3
    unfold nextR signedR
    simp only [k1, k2, k3, k4, hs, Bool.false_eq_true, if_false]
    rfl
  rcases hq with rfl | rfl | rfl <;> (simp only [List.cons_append, List.nil_append]; rw [lexU_word (key _ (by simp))]; simp [Tk.at])
end Go.Proofs.YtmhidempoabehaaGreatDoor.LX
/- An expression's text, lexed: its words. No condition. -/
namespace Go.Proofs.YtmhidempoabehaaGreatDoor.LX
set_option linter.unusedVariables false
set_option linter.unusedSimpArgs false
open Go AE EX PT NF PS
set_option maxRecDepth 100000

def lx (u : List UInt8) (p : Nat) : Except (Int × Nat) (List Tk) := lexU (u.length + 1) u p
abbrev WD := Int × List UInt8 × Int
def wof (t : Tk) : WD := (t.k, t.s, t.n)
def appL (l : List Tk) : Except (Int × Nat) (List Tk) → Except (Int × Nat) (List Tk)
  | .ok m => .ok (l ++ m)
  | .error e => .error e
theorem appL_app (a b : List Tk) (r : Except (Int × Nat) (List Tk)) : appL a (appL b r) = appL (a ++ b) r := by cases r <;> simp [appL]
theorem appL_one (t : Tk) (r : Except (Int × Nat) (List Tk)) : consL t r = appL [t] r := by cases r <;> rfl
theorem appL_nil (r : Except (Int × Nat) (List Tk)) : appL [] r = r := by cases r <;> rfl
theorem lx_fuel {f : Nat} {u : List UInt8} {p : Nat} (h : u.length < f) : lexU f u p = lx u p := lexU_fuel _ _ _ _ (by omega) (by omega)
/-- what ends a word -/
def Sep (r : List UInt8) : Prop := ∀ c v, r = c :: v → tl c = false ∧ c ≠ 61
def Sts (b : List UInt8) : Prop := ∀ r, Sep r → Sep (b ++ r)
theorem Sep_nil : Sep [] := fun c v h => by cases h
theorem Sts_nil : Sts [] := fun r h => h
theorem Sep_cons {c : UInt8} {v : List UInt8} (h1 : tl c = false) (h2 : c ≠ 61) : Sep (c :: v) := fun d w e => by cases e; exact ⟨h1, h2⟩
theorem Sts_cons {c : UInt8} {v : List UInt8} (h1 : tl c = false) (h2 : c ≠ 61) : Sts (c :: v) := fun r _ => Sep_cons h1 h2
/-- a text's words, ahead of what ends a word; ahead of whatever -/
def Lx (t : List UInt8) (ws : List WD) : Prop := ∀ r p, Sep r → ∃ l, l.map wof = ws ∧ lx (t ++ r) p = appL l (lx r (p + t.length))
def Lx0 (t : List UInt8) (ws : List WD) : Prop := ∀ r p, ∃ l, l.map wof = ws ∧ lx (t ++ r) p = appL l (lx r (p + t.length))
theorem Lx0.to {t : List UInt8} {ws : List WD} (h : Lx0 t ws) : Lx t ws := fun r p _ => h r p
theorem Lx0_nil : Lx0 [] [] := fun r p => ⟨[], rfl, by rw [appL_nil]; rfl⟩
theorem Lx.app {a b : List UInt8} {u v : List WD} (ha : Lx a u) (hb : Lx b v) (hs : Sts b) : Lx (a ++ b) (u ++ v) := fun r p hr => by
  obtain ⟨l, h1, h2⟩ := ha (b ++ r) p (hs r hr)
  obtain ⟨m, h3, h4⟩ := hb r (p + a.length) hr
  exact ⟨l ++ m, by rw [List.map_append, h1, h3], by rw [List.append_assoc, h2, h4, appL_app, List.length_append, Nat.add_assoc]⟩
theorem Lx0.app {a b : List UInt8} {u v : List WD} (ha : Lx0 a u) (hb : Lx b v) : Lx (a ++ b) (u ++ v) := fun r p hr => by
  obtain ⟨l, h1, h2⟩ := ha (b ++ r) p
  obtain ⟨m, h3, h4⟩ := hb r (p + a.length) hr
  exact ⟨l ++ m, by rw [List.map_append, h1, h3], by rw [List.append_assoc, h2, h4, appL_app, List.length_append, Nat.add_assoc]⟩
theorem Lx0_word {a : List UInt8} {w : WD} (h : ∀ f r p, ∃ t, wof t = w ∧ lexU (f + 1) (a ++ r) p = consL t (lexU f r (p + a.length))) (ha : a ≠ []) : Lx0 a [w] := fun r p => by
  obtain ⟨t, h1, h2⟩ := h (a ++ r).length r p
  have : 0 < a.length := List.length_pos_iff.2 ha
  exact ⟨[t], by simp [h1], by unfold lx; rw [h2, appL_one, lx_fuel (by simp; omega)]; rfl⟩
theorem Lx_word {a : List UInt8} {w : WD} (h : ∀ f r p, Sep r → ∃ t, wof t = w ∧ lexU (f + 1) (a ++ r) p = consL t (lexU f r (p + a.length))) (ha : a ≠ []) : Lx a [w] := fun r p hr => by
  obtain ⟨t, h1, h2⟩ := h (a ++ r).length r p hr
  have : 0 < a.length := List.length_pos_iff.2 ha
  exact ⟨[t], by simp [h1], by unfold lx; rw [h2, appL_one, lx_fuel (by simp; omega)]; rfl⟩
theorem Lx0_sp : Lx0 [32] [] := fun r p => ⟨[], rfl, by
  rw [appL_nil]
  show lexU (r.length + 1 + 1) (32 :: r) p = _
  rw [lexU_sp]; rfl⟩
theorem Lx_name {w : List UInt8} (h : nameB w = true) : Lx w [(1, w, 0)] :=
  Lx_word (fun f r p hr => ⟨_, rfl, lexU_name h fun c v e => (hr c v e).1⟩) (fun e => by subst e; cases h)
theorem Lx0_sign {c : UInt8} (hc : c ∈ signsT) (h60 : c ≠ 60) : Lx0 [c] [(4, [c], 0)] :=
  Lx0_word (fun f r p => ⟨_, rfl, lexU_sign hc fun e => absurd e h60⟩) (by simp)
theorem Lx_lt : Lx [60] [(4, [60], 0)] :=
  Lx_word (fun f r p hr => ⟨_, rfl, lexU_sign (by decide) fun _ v e => (hr 61 v e).2 rfl⟩) (by simp)
theorem Lx0_le : Lx0 [60, 61] [(4, [60, 61], 0)] :=
  Lx0_word (fun f r p => ⟨_, rfl, lexU_sign2 (q := [60, 61]) (by decide)⟩) (by simp)

/-! ### a number -/
theorem dig_tl {c : UInt8} (h : isDig c = true) : tl c = true ∧ headB (c.toNat : Int) = false ∧ digB (c.toNat : Int) = true ∧ spaces.contains c = false := by
  have h' : ∀ c : UInt8, isDig c = true → tl c = true ∧ headB (c.toNat : Int) = false ∧ digB (c.toNat : Int) = true ∧ spaces.contains c = false := by
    simp only [isDig, Bool.and_eq_true, decide_eq_true_eq, tl, tailB, headB, digB, spaces]
    intro c ⟨h1, h2⟩
    have hb : ∀ n : Nat, 48 ≤ n → n ≤ 57 → decide ((97 : Int) ≤ n) = false ∧ decide ((65 : Int) ≤ n) = false ∧ ((n : Int) == 95) = false ∧ decide ((48 : Int) ≤ n) = true ∧ decide ((n : Int) ≤ 57) = true := by
      intro n a b
      refine ⟨by simp; omega, by simp; omega, by simp; omega, by simp; omega, by simp; omega⟩
    obtain ⟨k1, k2, k3, k4, k5⟩ := hb c.toNat h1 h2
    refine ⟨by rw [k1, k2, k3, k4, k5]; rfl, by rw [k1, k2, k3]; rfl, ⟨by omega, by omega⟩, ?_⟩
    cases hc : [32, 9, 10, 13].contains c with
    | false => rfl
    | true =>
      have hm := List.contains_iff_mem.1 hc
      simp only [List.mem_cons, List.not_mem_nil, or_false] at hm
      exfalso
      rcases hm with rfl | rfl | rfl | rfl <;> revert h1 <;> decide
  exact h' c h
theorem takeWhile_app {f : UInt8 → Bool} {r : List UInt8} (hr : ∀ c v, r = c :: v → f c = false) : ∀ l : List UInt8, l.all f = true → (l ++ r).takeWhile f = l
  | [], _ => by
    cases r with
    | nil => rfl
    | cons d v => simp [List.takeWhile, hr d v rfl]
  | d :: l, hl => by
    simp only [List.all_cons, Bool.and_eq_true] at hl
    simp only [List.cons_append, List.takeWhile, hl.1, takeWhile_app hr l hl.2]
theorem Lx_num {n : Int} (h0 : 0 ≤ n) (h1 : n ≤ 9223372036854775807) : Lx (dec n) [(2, dec n, n)] := by
  have hd : dec n = dg n.natAbs := if_neg (by omega)
  have hpos := dg_pos n.natAbs
  refine Lx_word (fun f r p hr => ?_) (fun e => by rw [hd] at e; rw [e] at hpos; simp at hpos)
  have hall := dg_all n.natAbs
  have hval : val (dec n) = n.natAbs := by rw [hd]; exact val_dg _
  have hP : parseN (dec n) = some n.natAbs := by
    unfold parseN
    rw [if_pos ⟨by rw [hd]; exact hall, by rw [hval]; omega, by rw [hval, hd]; unfold dec; rw [if_neg (by omega)]; simp⟩, hval]
  rw [← hd] at hall hpos
  cases hdd : dec n with
  | nil => rw [hdd] at hpos; simp at hpos
  | cons c t =>
    rw [hdd] at hall hP
    have htl : (c :: t).all tl = true := by
      rw [List.all_eq_true] at hall ⊢
      exact fun x hx => (dig_tl (hall x hx)).1
    have htw := takeWhile_app (f := tl) (r := r) (fun d v e => (hr d v e).1) (c :: t) htl
    have hc : isDig c = true := by simp only [List.all_cons, Bool.and_eq_true] at hall; exact hall.1
    obtain ⟨_, k2, k3, k4⟩ := dig_tl hc
    have hf : far (c :: (t ++ r)) 0 = t.length + 1 := by
      simp only [far, List.drop_zero]
      have := congrArg List.length htw
      simp only [List.cons_append, List.length_cons] at this
      omega
    have hsub : sub (c :: (t ++ r)) 0 (t.length + 1) = c :: t := by
      simp only [sub, List.drop_zero, List.take_succ_cons]
      rw [List.take_left]
    have hn : nextR (c :: (t ++ r)) 0 c = some (.word ⟨2, c :: t, ((n.natAbs : Nat) : Int), 0⟩ (t.length + 1)) := by
      unfold nextR
      rw [if_neg (by rw [k4]; simp)]
      simp only [k2, k3, Bool.false_eq_true, if_false, if_true]
      unfold numberedR
      rw [hf, hsub, hP]
      rfl
    refine ⟨⟨2, c :: t, ((n.natAbs : Nat) : Int), p⟩, ?_, ?_⟩
    · simp only [wof]
      rw [show ((n.natAbs : Nat) : Int) = n by omega]
    · rw [List.cons_append, lexU_word hn]
      simp [Tk.at]
/-! ### a text in quotes -/
theorem index_quote {r : List UInt8} {d : UInt8} : ∀ (u : List UInt8), (∀ c ∈ u, c ≠ d) → Lib.indexByte (u ++ d :: r) d = u.length
  | [], _ => by simp [Lib.indexByte]
  | c :: u, h => by
    have h1 : (c == d) = false := by simpa using h c (by simp)
    have ih := index_quote (r := r) u fun x hx => h x (by simp [hx])
    simp only [List.cons_append, Lib.indexByte, h1, ih]
    simp
theorem index_not {d : UInt8} : ∀ (u : List UInt8), (∀ c ∈ u, c ≠ d) → Lib.indexByte u d = -1
  | [], _ => rfl
  | c :: u, h => by
    have h1 : (c == d) = false := by simpa using h c (by simp)
    have ih := index_not u fun x hx => h x (by simp [hx])
    simp only [Lib.indexByte, h1, ih]
    simp
theorem Lx0_quote {nm : List UInt8} (h : plainB nm = true) : Lx0 (34 :: nm ++ [34]) [(3, nm, 0)] := by
  refine Lx0_word (fun f r p => ⟨⟨3, nm, 0, p⟩, rfl, ?_⟩) (by simp)
  have hp := h
  simp only [plainB, Bool.and_eq_true, decide_eq_true_eq, List.all_eq_true] at h
  have h34 : ∀ c ∈ nm, c ≠ 34 := fun c hc e => by have := h.2 c hc; subst e; revert this; decide
  have h10 : ∀ c ∈ nm, c ≠ 10 := fun c hc e => by have := h.2 c hc; subst e; revert this; decide
  have e1 : (34 :: nm ++ [34]) ++ r = 34 :: (nm ++ 34 :: r) := by simp
  have hi : Lib.indexByte (nm ++ 34 :: r) 34 = nm.length := index_quote nm h34
  have hsub : sub (34 :: (nm ++ 34 :: r)) 1 (1 + nm.length) = nm := by
    simp [sub, Nat.add_comm 1]
  have hn : nextR (34 :: (nm ++ 34 :: r)) 0 34 = some (.word ⟨3, nm, 0, 0⟩ (nm.length + 2)) := by
    unfold nextR
    rw [if_neg (by decide)]
    simp only [show headB ((34 : UInt8).toNat : Int) = false by decide, show digB ((34 : UInt8).toNat : Int) = false by decide, show (((34 : UInt8).toNat : Int) == 34) = true by decide, Bool.false_eq_true, if_false, if_true]
    unfold quotedR
    simp only [Nat.zero_add, List.drop_succ_cons, List.drop_zero, hi, Int.toNat_natCast, hsub, index_not nm h10]
    rw [if_neg (by omega), if_neg (by decide), if_pos hp]
    simp
  rw [e1, lexU_word hn]
  simp [Tk.at]
end Go.Proofs.YtmhidempoabehaaGreatDoor.LX
/- An expression that may be: its shape; its text's words. No condition. -/
namespace Go.Proofs.YtmhidempoabehaaGreatDoor.LX
set_option linter.unusedVariables false
set_option linter.unusedSimpArgs false
open Go AE EX PT NF PS
set_option maxRecDepth 100000

def k1 (k : Int) : Prop := k = 11 ∨ k = 12 ∨ k = 18 ∨ k = 22 ∨ k = 23 ∨ k = 25
def kb (k : Int) : Prop := k = 8 ∨ k = 9 ∨ k = 10 ∨ k = 14 ∨ k = 15 ∨ k = 16 ∨ k = 17 ∨ k = 19 ∨ k = 20
/-- what may be, by its shape -/
theorem may_shape {k : Int} {nm : List UInt8} {n lo hi : Int} {tk : Bool} {kids : List X} (h : MayAll (.mk k nm n lo hi tk kids)) :
    Fits k nm n lo hi ∧ ((k = 4 ∧ SetOK kids) ∨ (isLeaf k ∧ kids = []) ∨ (k1 k ∧ ∃ a, kids = [a] ∧ MayAll a) ∨ (kb k ∧ ∃ a b, kids = [a, b] ∧ MayAll a ∧ MayAll b) ∨ (k = 24 ∧ ∃ a b, kids = [a, b] ∧ MayAll a ∧ MayAll b)) := by
  by_cases h4 : k = 4
  · obtain ⟨h1, h2⟩ := (mayAll_set h4).1 h
    exact ⟨h1, .inl ⟨h4, h2⟩⟩
  · obtain ⟨hk, hl, hf, hall⟩ := (mayAll_more h4).1 h
    refine ⟨hf, .inr ?_⟩
    have two : (kids.length : Int) = 2 → ∃ a b, kids = [a, b] ∧ MayAll a ∧ MayAll b := fun hl => by
      match kids, hl, hall with
      | [a, b], _, hall => exact ⟨a, b, rfl, hall a (by simp), hall b (by simp)⟩
      | [], hl, _ => simp at hl
      | [_], hl, _ => simp at hl
      | _ :: _ :: _ :: _, hl, _ => simp at hl; omega
    have one : (kids.length : Int) = 1 → ∃ a, kids = [a] ∧ MayAll a := fun hl => by
      match kids, hl, hall with
      | [a], _, hall => exact ⟨a, rfl, hall a (by simp)⟩
      | [], hl, _ => simp at hl
      | _ :: _ :: _, hl, _ => simp at hl; omega
    have zero : (kids.length : Int) = 0 → kids = [] := fun hl => List.eq_nil_of_length_eq_zero (by omega)
    unfold kidsI at hl
    unfold isLeaf k1 kb
    rcases hk with rfl | rfl | rfl | rfl | rfl | rfl | rfl | rfl | rfl | rfl | rfl | rfl | rfl | rfl | rfl | rfl | rfl | rfl | rfl | rfl | rfl | rfl | rfl | rfl | rfl <;> simp at hl h4 ⊢ <;>
      first
      | exact hl
      | exact zero (by omega)
      | exact one (by omega)
      | exact two (by omega)

/-! ### its words -/
def joinTailW (r : List (List WD)) : List WD := (r.map ((4, [44], 0) :: ·)).flatten
def joinW : List (List WD) → List WD
  | [] => []
  | x :: r => x ++ joinTailW r
def spanW (lo hi : Int) : List WD := (4, [91], 0) :: (2, dec lo, lo) :: (4, [44], 0) :: (if hi = -1 then (4, [42], 0) else (2, dec hi, hi)) :: [(4, [93], 0)]
def frontW (k lo hi : Int) : List WD := if k = 12 ∨ k = 25 then [(1, wordT k, 0)] else (1, wordT k, 0) :: spanW lo hi
def signW (k : Int) : WD := (if k = 17 ∨ k = 19 ∨ k = 20 then 1 else 4, signT k, 0)
def leafW (k : Int) (nm : List UInt8) (n hi : Int) : List WD :=
  if k = 1 then [(2, dec n, n)] else if k = 2 then [(1, if n = 0 then [102, 97, 108, 115, 101] else [116, 114, 117, 101], 0)] else if k = 3 then [(3, nm, 0)] else if k = 5 then [(1, [115], 0), (4, [46], 0), (1, nm, 0)] else if k = 6 then [(1, [111], 0), (4, [46], 0), (1, nm, 0)] else
  if k = 13 then [(1, [116, 105, 109, 101, 115], 0), (4, [40], 0), (1, nm, 0), (4, [44], 0), (2, dec hi, hi), (4, [41], 0)] else if k = 21 then [(1, [97, 99, 116], 0), (4, [40], 0), (1, nm, 0), (4, [41], 0)] else [(1, [110, 111, 119], 0)]
def binW (k : Int) : List (List WD) → List WD
  | [a, b] => (4, [40], 0) :: a ++ signW k :: b ++ [(4, [41], 0)]
  | _ => []
mutual
def _root_.Go.Proofs.YtmhidempoabehaaGreatDoor.EX.X.toks : X → List WD
  | .mk k nm n lo hi _ kids =>
    if k = 4 then (4, [123], 0) :: joinW (toksL kids) ++ [(4, [125], 0)] else if k = 11 then (4, [45], 0) :: joinW (toksL kids) else if k = 18 then (1, [110, 111, 116], 0) :: joinW (toksL kids) else
    if k = 12 ∨ k = 25 ∨ k = 22 ∨ k = 23 ∨ k = 24 then frontW k lo hi ++ (4, [40], 0) :: joinW (toksL kids) ++ [(4, [41], 0)] else
    if kids.length = 2 then binW k (toksL kids) else leafW k nm n hi
def toksL : List X → List (List WD)
  | [] => []
  | x :: l => x.toks :: toksL l
end

theorem sgn0 {c : UInt8} (h : c ∈ signsT ∧ c ≠ 60 := by decide) : Lx0 [c] [(4, [c], 0)] := Lx0_sign h.1 h.2
theorem Lx0.cons {c : UInt8} {u v : List WD} {b : List UInt8} (ha : Lx0 [c] u) (hb : Lx b v) : Lx (c :: b) (u ++ v) := ha.app hb
theorem comma_sts (b : List UInt8) : Sts (44 :: b) := Sts_cons (by decide) (by decide)
theorem close_sts : Sts [41] := Sts_cons (by decide) (by decide)
theorem sp_sts (b : List UInt8) : Sts (32 :: b) := Sts_cons (by decide) (by decide)
theorem tail_sts (r : List (List UInt8)) : Sts (Lib.joinTail [44, 32] r) := by
  cases r with
  | nil => exact Sts_nil
  | cons x r => simp only [Lib.joinTail, List.map_cons, List.flatten_cons, List.cons_append]; exact comma_sts _
theorem Lx_tail : ∀ (r : List X), (∀ x ∈ r, Lx x.txt x.toks) → Lx (Lib.joinTail [44, 32] (txtL r)) (joinTailW (toksL r))
  | [], _ => Lx0_nil.to
  | x :: r, h => by
    have h1 := h x (by simp)
    have h2 := Lx_tail r fun y hy => h y (by simp [hy])
    have h3 : Lx (44 :: 32 :: (x.txt ++ Lib.joinTail [44, 32] (txtL r))) ([(4, [44], 0)] ++ ([] ++ (x.toks ++ joinTailW (toksL r)))) := (sgn0 (c := 44)).cons (Lx0_sp.cons (h1.app h2 (tail_sts _)))
    simpa [txtL, toksL, Lib.joinTail, joinTailW] using h3
theorem Lx_join (l : List X) (h : ∀ x ∈ l, Lx x.txt x.toks) : Lx (joinT (txtL l)) (joinW (toksL l)) := by
  cases l with
  | nil => exact Lx0_nil.to
  | cons x r =>
    simp only [txtL, toksL, joinT, joinW]
    rw [Lib.join_cons]
    exact (h x (by simp)).app (Lx_tail r fun y hy => h y (by simp [hy])) (tail_sts _)
theorem Lx_kw {w : List UInt8} (h : nameB w = true := by decide) : Lx w [(1, w, 0)] := Lx_name h
theorem Lx_close {a : List UInt8} {u : List WD} (h : Lx a u) : Lx (40 :: a ++ [41]) ((4, [40], 0) :: u ++ [(4, [41], 0)]) :=
  (sgn0 (c := 40)).cons (h.app (sgn0 (c := 41)).to close_sts)
theorem open_sts (b : List UInt8) : Sts (40 :: b) := Sts_cons (by decide) (by decide)
theorem Lx_span {lo hi : Int} (h1 : 0 ≤ lo) (h2 : hi = -1 ∨ lo ≤ hi) (h3 : in64 lo) (h4 : in64 hi) : Lx (spanT lo hi) (spanW lo hi) := by
  unfold in64 at h3 h4
  have hn := Lx_num h1 h3.2
  have hend : Lx ((if hi = -1 then [42] else dec hi) ++ [93]) ([if hi = -1 then ((4, [42], 0) : WD) else (2, dec hi, hi)] ++ [(4, [93], 0)]) := by
    refine Lx.app ?_ (sgn0 (c := 93)).to (Sts_cons (by decide) (by decide))
    split
    · exact (sgn0 (c := 42)).to
    · exact Lx_num (by omega) h4.2
  have h := (sgn0 (c := 91)).cons (hn.app ((sgn0 (c := 44)).cons hend) (comma_sts _))
  simpa [spanT, spanW] using h
theorem Lx.sp0 {a : List UInt8} {u : List WD} (h : Lx a u) : Lx0 (a ++ [32]) u := fun r p => by
  obtain ⟨l, h1, h2⟩ := h (32 :: r) p (Sep_cons (by decide) (by decide))
  obtain ⟨m, h3, h4⟩ := Lx0_sp r (p + a.length)
  exact ⟨l ++ m, by rw [List.map_append, h1, h3, List.append_nil], by rw [List.append_assoc]; show lx (a ++ 32 :: r) p = _; rw [h2]; show appL l (lx ([32] ++ r) _) = _; rw [h4, appL_app, List.length_append, Nat.add_assoc]⟩
theorem Lx_sign {k : Int} (hk : kb k) : Lx0 (32 :: signT k ++ [32]) [signW k] := by
  have h : Lx (signT k) [signW k] := by
    unfold kb at hk
    rcases hk with rfl | rfl | rfl | rfl | rfl | rfl | rfl | rfl | rfl
    · exact (sgn0 (c := 43)).to
    · exact (sgn0 (c := 45)).to
    · exact (sgn0 (c := 42)).to
    · exact (sgn0 (c := 61)).to
    · exact Lx_lt
    · exact Lx0_le.to
    · exact Lx_kw (w := [105, 110])
    · exact Lx_kw (w := [97, 110, 100])
    · exact Lx_kw (w := [111, 114])
  exact (Lx0_sp.cons h).sp0
theorem Lx_word' {k : Int} (hk : k = 12 ∨ k = 25 ∨ k = 22 ∨ k = 23 ∨ k = 24) : Lx (wordT k) [(1, wordT k, 0)] := by
  rcases hk with rfl | rfl | rfl | rfl | rfl <;> exact Lx_kw
theorem Lx_front {k lo hi : Int} (hk : k = 12 ∨ k = 25 ∨ k = 22 ∨ k = 23 ∨ k = 24) (h : k = 22 ∨ k = 23 ∨ k = 24 → 0 ≤ lo ∧ (hi = -1 ∨ lo ≤ hi)) (h3 : in64 lo) (h4 : in64 hi) : Lx (frontT k lo hi) (frontW k lo hi) := by
  have hw := Lx_word' hk
  unfold frontT frontW
  split
  · exact hw
  · obtain ⟨a, b⟩ := h (by omega)
    refine hw.app (Lx_span a b h3 h4) ?_
    exact Sts_cons (by decide) (by decide)
theorem Lx_leaf {k : Int} {nm : List UInt8} {n lo hi : Int} (hk : isLeaf k) (hf : Fits k nm n lo hi) (h3 : in64 n) (h4 : in64 hi) : Lx (leafT k nm n hi) (leafW k nm n hi) := by
  unfold in64 at h3 h4
  rcases hk with rfl | rfl | rfl | rfl | rfl | rfl | rfl | rfl
  · exact Lx_num (hf.int rfl) h3.2
  · simp only [leafT, leafW]
    by_cases h : n = 0
    · subst h; exact Lx_kw (w := [102, 97, 108, 115, 101])
    · simp only [h]; exact Lx_kw (w := [116, 114, 117, 101])
  · exact (Lx0_quote (hf.text rfl)).to
  · have hn := Lx_name (hf.name (by omega))
    exact (Lx_kw (w := [115])).app ((sgn0 (c := 46)).cons hn) (Sts_cons (by decide) (by decide))
  · have hn := Lx_name (hf.name (by omega))
    exact (Lx_kw (w := [111])).app ((sgn0 (c := 46)).cons hn) (Sts_cons (by decide) (by decide))
  · exact Lx_kw (w := [110, 111, 119])
  · have hn := Lx_name (hf.name (by omega))
    have hd := Lx_num (hf.times rfl).2 h4.2
    have h := (Lx_kw (w := [116, 105, 109, 101, 115])).app ((sgn0 (c := 40)).cons (hn.app ((sgn0 (c := 44)).cons (Lx0_sp.cons (hd.app (sgn0 (c := 41)).to close_sts))) (comma_sts _))) (open_sts _)
    simpa [leafT, leafW] using h
  · have hn := Lx_name (hf.name (by omega))
    have h := (Lx_kw (w := [97, 99, 116])).app ((sgn0 (c := 40)).cons (hn.app (sgn0 (c := 41)).to close_sts)) (open_sts _)
    simpa [leafT, leafW] using h
theorem numL_mem {x : X} : ∀ {l : List X}, x ∈ l → numL l → x.num
  | y :: l, h, hf => by
    rcases List.mem_cons.1 h with rfl | h
    · exact hf.1
    · exact numL_mem h hf.2
theorem Lx_expr : ∀ (m : Nat) (x : X), x.size ≤ m → MayAll x → x.num → Lx x.txt x.toks
  | 0, x, hm, _, _ => by have := size_pos x; omega
  | m + 1, .mk k nm n lo hi tk kids, hm, h, hfit => by
    obtain ⟨hf, hs⟩ := may_shape h
    obtain ⟨f1, f2, f3, f4, f5, f6⟩ := hfit
    simp only [X.size] at hm
    have key : (∀ x ∈ kids, MayAll x) → ∀ x ∈ kids, Lx x.txt x.toks := fun ha x hx => Lx_expr m x (by have := sizeL_mem hx; omega) (ha x hx) (numL_mem hx f6)
    have hj : (∀ x ∈ kids, MayAll x) → Lx (joinT (txtL kids)) (joinW (toksL kids)) := fun ha => Lx_join kids (key ha)
    rcases hs with ⟨rfl, hset⟩ | ⟨hk, rfl⟩ | ⟨hk, a, rfl, ha⟩ | ⟨hk, a, b, rfl, ha, hb⟩ | ⟨rfl, a, b, rfl, ha, hb⟩
    · have hj := hj fun x hx => by
        obtain ⟨nm', tk', rfl, hp⟩ := hset.kid x hx
        exact (may_text _ _ _ _ _ _).2 ⟨rfl, rfl, rfl, rfl, hp⟩
      have h := (sgn0 (c := 123)).cons (hj.app (sgn0 (c := 125)).to (Sts_cons (by decide) (by decide)))
      simpa [X.txt, X.toks] using h
    · have hl := Lx_leaf hk hf f2 f4
      have e : (X.mk k nm n lo hi tk []).txt = leafT k nm n hi ∧ (X.mk k nm n lo hi tk []).toks = leafW k nm n hi := by
        rcases hk with rfl | rfl | rfl | rfl | rfl | rfl | rfl | rfl <;> exact ⟨rfl, rfl⟩
      rw [e.1, e.2]
      exact hl
    · have hj := hj fun x hx => by simp at hx; subst hx; exact ha
      rcases hk with rfl | rfl | rfl | rfl | rfl | rfl
      · simpa [X.txt, X.toks] using (sgn0 (c := 45)).cons hj
      · have h := (Lx_front (lo := lo) (hi := hi) (.inl rfl) (fun h => by omega) f3 f4).app (Lx_close hj) (open_sts _)
        simpa [X.txt, X.toks] using h
      · have h := (Lx_kw (w := [110, 111, 116])).app (Lx0_sp.cons hj) (sp_sts _)
        simpa [X.txt, X.toks] using h
      · have h := (Lx_front (.inr (.inr (.inl rfl))) hf.span f3 f4).app (Lx_close hj) (open_sts _)
        simpa [X.txt, X.toks] using h
      · have h := (Lx_front (.inr (.inr (.inr (.inl rfl)))) hf.span f3 f4).app (Lx_close hj) (open_sts _)
        simpa [X.txt, X.toks] using h
      · have h := (Lx_front (lo := lo) (hi := hi) (.inr (.inl rfl)) (fun h => by omega) f3 f4).app (Lx_close hj) (open_sts _)
        simpa [X.txt, X.toks] using h
    · have hall : ∀ x ∈ [a, b], MayAll x := fun x hx => by
        simp at hx
        rcases hx with rfl | rfl
        · exact ha
        · exact hb
      have la := key hall a (by simp)
      have lb := key hall b (by simp)
      have h := (sgn0 (c := 40)).cons (la.app ((Lx_sign hk).app (lb.app (sgn0 (c := 41)).to close_sts)) (sp_sts _))
      have e : (X.mk k nm n lo hi tk [a, b]).txt = 40 :: (a.txt ++ (32 :: signT k ++ [32] ++ (b.txt ++ [41]))) ∧ (X.mk k nm n lo hi tk [a, b]).toks = [(4, [40], 0)] ++ (a.toks ++ ([signW k] ++ (b.toks ++ [(4, [41], 0)]))) := by
        rcases hk with rfl | rfl | rfl | rfl | rfl | rfl | rfl | rfl | rfl <;> simp [X.txt, X.toks, txtL, toksL, binT, binW]
      rw [e.1, e.2]
      exact h
    · have hj := hj fun x hx => by
        simp at hx
        rcases hx with rfl | rfl
        · exact ha
        · exact hb
      have h := (Lx_front (.inr (.inr (.inr (.inr rfl)))) hf.span f3 f4).app (Lx_close hj) (open_sts _)
      simpa [X.txt, X.toks] using h
end Go.Proofs.YtmhidempoabehaaGreatDoor.LX
/- A text in parentheses, parsed: the same, or too deep. No condition. -/
namespace Go.Proofs.YtmhidempoabehaaGreatDoor.PS
set_option linter.unusedVariables false
set_option linter.unusedSimpArgs false
open Go AE EX PT NF LX
set_option maxRecDepth 100000

/-! ### at the end -/
theorem is_end {h : Nat → Tk} {q : Nat} (hq : (h q).k = 5) (w : List UInt8) : isB h q w = false := by
  have := kindOf_ne w
  simp only [isB, hq]
  have : ((5 : Int) == kindOf w) = false := by simp [Ne.symm this]
  simp [this]
theorem opAt_end {h : Nat → Tk} {q : Nat} (hq : (h q).k = 5) : ∀ ops, opAt h q ops = none
  | [] => rfl
  | (w, k) :: r => by rw [opAt, is_end hq, if_neg (by simp)]; exact opAt_end hq r
theorem chain_end {h : Nat → Tk} {F : Nat} {ops : List (List UInt8 × Int)} {sub : Nat → PR X} {p q : Nat} {x : X} (hs : sub p = .ok (x, q)) (hF : 0 < F) (hq : (h q).k = 5) : chainP h F ops sub p = .ok (x, q) := by
  obtain ⟨f, rfl⟩ : ∃ f, F = f + 1 := ⟨F - 1, by omega⟩
  unfold chainP
  rw [hs, th_ok, loopF, opAt_end hq]
theorem chain_err {h : Nat → Tk} {F : Nat} {ops : List (List UInt8 × Int)} {sub : Nat → PR X} {p : Nat} {e : Int × Nat} (hs : sub p = .error e) : chainP h F ops sub p = .error e := by
  unfold chainP
  rw [hs, th_err]
theorem rel_end {h : Nat → Tk} {sub : Nat → PR X} {p q : Nat} {x : X} (hs : sub p = .ok (x, q)) (hq : (h q).k = 5) : relP h sub p = .ok (x, q) := by
  unfold relP
  rw [hs, th_ok]
  simp [is_end hq]
theorem rel_err {h : Nat → Tk} {sub : Nat → PR X} {p : Nat} {e : Int × Nat} (hs : sub p = .error e) : relP h sub p = .error e := by
  unfold relP
  rw [hs, th_err]
theorem any_end {h : Nat → Tk} {F : Nat} {one : Nat → PR X} {p q : Nat} {x : X} (hs : one p = .ok (x, q)) (hF : 0 < F) (hq : (h q).k = 5) : anyP h F one p = .ok (x, q) :=
  chain_end (chain_end (rel_end (chain_end (chain_end hs hF hq) hF hq) hq) hF hq) hF hq
theorem any_err {h : Nat → Tk} {F : Nat} {one : Nat → PR X} {p : Nat} {e : Int × Nat} (hs : one p = .error e) : anyP h F one p = .error e :=
  chain_err (chain_err (rel_err (chain_err (chain_err hs))))

/-! ### one place further on -/
structure Rel (h h' : Nat → Tk) (m : Nat) : Prop where
  k : ∀ i, i < m → (h' (i + 1)).k = (h i).k
  s : ∀ i, i < m → (h' (i + 1)).s = (h i).s
  n : ∀ i, i < m → (h' (i + 1)).n = (h i).n
  e : (h m).k = 5
  ek : (h' (m + 1)).k = 4
  es : (h' (m + 1)).s = [41]
def Sim {α : Type} (m : Nat) (R : α → α → Prop) (sub sub' : Nat → PR α) : Prop :=
  ∀ p x r, p ≤ m → sub p = .ok (x, r) → r ≤ m ∧ ((∃ x', R x x' ∧ sub' (p + 1) = .ok (x', r + 1)) ∨ ∃ e, sub' (p + 1) = .error (32, e))
def TkR (t t' : Tk) : Prop := t'.s = t.s ∧ t'.n = t.n

section
variable {h h' : Nat → Tk} {m : Nat} (hr : Rel h h' m)
include hr
theorem sim_is {i : Nat} {q : List UInt8} (hi : i ≤ m) (hq : q ≠ [41]) : isB h' (i + 1) q = isB h i q := by
  rcases Nat.lt_or_ge i m with h1 | h1
  · simp only [isB, hr.k i h1, hr.s i h1]
  · have : i = m := by omega
    subst this
    rw [is_end hr.e]
    simp only [isB, hr.ek, hr.es]
    have : (([41] : List UInt8) == q) = false := by simp [Ne.symm hq]
    simp [this]
theorem sim_ist {i : Nat} {q : List UInt8} (hi : i ≤ m) (hb : isB h i q = true) : i < m ∧ isB h' (i + 1) q = true := by
  have h1 : i < m := by
    rcases Nat.lt_or_ge i m with h1 | h1
    · exact h1
    · have : i = m := by omega
      subst this
      rw [is_end hr.e] at hb
      cases hb
  refine ⟨h1, ?_⟩
  simp only [isB, hr.k i h1, hr.s i h1] at hb ⊢
  exact hb
theorem sim_need (q : List UInt8) : Sim m Eq (needP h q) (needP h' q) := by
  intro p x r hp hh
  unfold needP at hh
  split at hh
  · rename_i hb
    cases hh
    obtain ⟨h1, h2⟩ := sim_ist hr hp hb
    refine ⟨by omega, .inl ⟨(), rfl, ?_⟩⟩
    unfold needP
    rw [if_pos h2]
  · cases hh
theorem sim_take {k : Int} (hk : k ≠ 5) : Sim m TkR (takeP h k) (takeP h' k) := by
  intro p x r hp hh
  unfold takeP at hh
  split at hh
  · rename_i hb
    cases hh
    have h1 : p < m := by
      rcases Nat.lt_or_ge p m with h1 | h1
      · exact h1
      · have : p = m := by omega
        subst this
        rw [hr.e] at hb
        exact absurd hb.symm hk
    refine ⟨by omega, .inl ⟨h' (p + 1), ⟨hr.s p h1, hr.n p h1⟩, ?_⟩⟩
    unfold takeP
    rw [if_pos (by rw [hr.k p h1]; exact hb)]
  · cases hh
omit hr in
theorem sim_th {α β : Type} {R : α → α → Prop} {S : β → β → Prop} {sub sub' : Nat → PR α} {g g' : α → Nat → PR β} (hR : ∀ v, R v v) (hs : Sim m R sub sub') (hg : ∀ v v', R v v' → Sim m S (g v) (g' v')) :
    Sim m S (fun p => (sub p).th g) (fun p => (sub' p).th g') := by
  intro p x r hp hh
  obtain ⟨v, q, h1, h2⟩ := th_split hh
  obtain ⟨k1, k2⟩ := hs p v q hp h1
  rcases k2 with ⟨v', k3, k4⟩ | ⟨e, k4⟩
  · obtain ⟨j1, j2⟩ := hg v v' k3 q x r k1 h2
    refine ⟨j1, ?_⟩
    simp only [k4, th_ok]
    exact j2
  · exact ⟨(hg v v (hR v) q x r k1 h2).1, .inr ⟨e, by simp only [k4, th_err]⟩⟩
omit hr in
theorem sim_the {α β : Type} {S : β → β → Prop} {sub sub' : Nat → PR α} {g g' : α → Nat → PR β} (hs : Sim m Eq sub sub') (hg : ∀ v, Sim m S (g v) (g' v)) :
    Sim m S (fun p => (sub p).th g) (fun p => (sub' p).th g') := sim_th (fun _ => rfl) hs fun v v' e => by subst e; exact hg v
omit hr in
theorem sim_tht {β : Type} {S : β → β → Prop} {sub sub' : Nat → PR Tk} {g g' : Tk → Nat → PR β} (hs : Sim m TkR sub sub') (hg : ∀ v v', TkR v v' → Sim m S (g v) (g' v')) :
    Sim m S (fun p => (sub p).th g) (fun p => (sub' p).th g') := sim_th (fun _ => ⟨rfl, rfl⟩) hs hg
omit hr in
theorem sim_ok {α : Type} (v : α) : Sim m Eq (fun q => .ok (v, q)) (fun q => .ok (v, q)) := by
  intro p x r hp h
  cases h
  exact ⟨hp, .inl ⟨v, rfl, rfl⟩⟩
omit hr in
theorem sim_error {α : Type} {S : α → α → Prop} (c : Int) (sub' : Nat → PR α) : Sim m S (fun q => .error (c, q)) sub' := by
  intro p x r hp h
  cases h
theorem sim_if {α : Type} {S : α → α → Prop} {q : List UInt8} (hq : q ≠ [41]) {A A' B B' : Nat → PR α} (hA : Sim m S A A') (hB : Sim m S B B') :
    Sim m S (fun p => if isB h p q = true then A (p + 1) else B p) (fun p => if isB h' p q = true then A' (p + 1) else B' p) := by
  intro p x r hp hh
  simp only at hh ⊢
  rw [sim_is hr hp hq]
  split at hh
  · rename_i hb
    obtain ⟨h1, _⟩ := sim_ist hr hp hb
    rw [if_pos hb]
    exact hA (p + 1) x r (by omega) hh
  · rename_i hb
    rw [if_neg hb]
    exact hB p x r hp hh

theorem sim_opAt {i : Nat} (hi : i ≤ m) : ∀ {ops : List (List UInt8 × Int)}, (∀ o ∈ ops, o.1 ≠ [41]) → opAt h' (i + 1) ops = opAt h i ops
  | [], _ => rfl
  | (q, k) :: r, ho => by
    rw [opAt, opAt, sim_is hr hi (ho _ (List.mem_cons_self ..)), sim_opAt hi fun o h => ho o (List.mem_cons_of_mem _ h)]
theorem sim_loop {ops : List (List UInt8 × Int)} (ho : ∀ o ∈ ops, o.1 ≠ [41]) {sub sub' : Nat → PR X} (hs : Sim m Eq sub sub') : ∀ f F e, f ≤ F → Sim m Eq (loopF h ops sub f e) (loopF h' ops sub' F e)
  | 0, F, e, _ => by intro p x r hp hh; cases hh
  | f + 1, 0, e, hF => by omega
  | f + 1, F + 1, e, hF => by
    intro p x r hp hh
    rw [loopF] at hh
    rw [loopF, sim_opAt hr hp ho]
    cases ha : opAt h p ops with
    | none =>
      rw [ha] at hh
      cases hh
      exact ⟨hp, .inl ⟨e, rfl, rfl⟩⟩
    | some k =>
      rw [ha] at hh
      simp only at hh ⊢
      obtain ⟨w, hw⟩ : ∃ q, isB h p q = true := by
        clear hh hs
        induction ops with
        | nil => cases ha
        | cons o r ih =>
          obtain ⟨q, k'⟩ := o
          rw [opAt] at ha
          split at ha
          · rename_i hb; exact ⟨q, hb⟩
          · exact ih (fun o h => ho o (List.mem_cons_of_mem _ h)) ha
      obtain ⟨h1, _⟩ := sim_ist hr hp hw
      exact sim_the hs (fun v => sim_loop ho hs f F _ (by omega)) (p + 1) x r (by omega) hh
theorem sim_chain {ops : List (List UInt8 × Int)} (ho : ∀ o ∈ ops, o.1 ≠ [41]) {sub sub' : Nat → PR X} (hs : Sim m Eq sub sub') {F F' : Nat} (hF : F ≤ F') : Sim m Eq (chainP h F ops sub) (chainP h' F' ops sub') :=
  sim_the hs fun v => sim_loop hr ho hs F F' v hF
theorem sim_rel {sub sub' : Nat → PR X} (hs : Sim m Eq sub sub') : Sim m Eq (relP h sub) (relP h' sub') :=
  sim_the hs fun e => sim_if hr (q := [61]) (by decide) (A := fun r => (sub r).th fun x q => .ok (bothX 14 e x, q)) (A' := fun r => (sub' r).th fun x q => .ok (bothX 14 e x, q)) (sim_the hs fun x => sim_ok _)
    (sim_if hr (q := [33, 61]) (by decide) (A := fun r => (sub r).th fun x q => .ok (oneX 18 (bothX 14 e x), q)) (A' := fun r => (sub' r).th fun x q => .ok (oneX 18 (bothX 14 e x), q)) (sim_the hs fun x => sim_ok _)
    (sim_if hr (q := [60]) (by decide) (A := fun r => (sub r).th fun x q => .ok (bothX 15 e x, q)) (A' := fun r => (sub' r).th fun x q => .ok (bothX 15 e x, q)) (sim_the hs fun x => sim_ok _)
    (sim_if hr (q := [60, 61]) (by decide) (A := fun r => (sub r).th fun x q => .ok (bothX 16 e x, q)) (A' := fun r => (sub' r).th fun x q => .ok (bothX 16 e x, q)) (sim_the hs fun x => sim_ok _)
    (sim_if hr (q := [105, 110]) (by decide) (A := fun r => (sub r).th fun x q => .ok (bothX 17 e x, q)) (A' := fun r => (sub' r).th fun x q => .ok (bothX 17 e x, q)) (sim_the hs fun x => sim_ok _) (sim_ok e)))))
theorem sim_any {one one' : Nat → PR X} (hs : Sim m Eq one one') {F F' : Nat} (hF : F ≤ F') : Sim m Eq (anyP h F one) (anyP h' F' one') :=
  sim_chain hr (by decide) (sim_chain hr (by decide) (sim_rel hr (sim_chain hr (by decide) (sim_chain hr (by decide) hs hF) hF)) hF) hF
theorem sim_setF : ∀ f F ks, f ≤ F → Sim m Eq (setF h f ks) (setF h' F ks)
  | 0, F, ks, _ => by intro p x r hp hh; cases hh
  | f + 1, 0, ks, hF => by omega
  | f + 1, F + 1, ks, hF => by
    have key : Sim m Eq (fun p => (takeP h 3 p).th fun t r => if setBad ks t.s = true then .error (16, r) else if isB h r [125] = true then .ok (setX (ks ++ [leafX 3 t.s 0 0]), r + 1) else (needP h [44] r).th fun _ q => setF h f (ks ++ [leafX 3 t.s 0 0]) q)
        (fun p => (takeP h' 3 p).th fun t r => if setBad ks t.s = true then .error (16, r) else if isB h' r [125] = true then .ok (setX (ks ++ [leafX 3 t.s 0 0]), r + 1) else (needP h' [44] r).th fun _ q => setF h' F (ks ++ [leafX 3 t.s 0 0]) q) := by
      refine sim_tht (sim_take hr (by decide)) fun t t' ht => ?_
      rw [ht.1]
      by_cases hb : setBad ks t.s = true
      · simp only [hb, if_true]
        exact sim_error 16 _
      · simp only [hb, if_false, Bool.false_eq_true]
        exact sim_if hr (q := [125]) (by decide) (A := fun q => .ok (setX (ks ++ [leafX 3 t.s 0 0]), q)) (A' := fun q => .ok (setX (ks ++ [leafX 3 t.s 0 0]), q)) (sim_ok _)
          (sim_the (sim_need hr [44]) fun _ => sim_setF f F _ (by omega))
    intro p x r hp hh
    rw [setF] at hh ⊢
    exact key p x r hp hh
theorem sim_set {F F' : Nat} (hF : F ≤ F') : Sim m Eq (setP h F) (setP h' F') :=
  sim_if hr (q := [125]) (by decide) (A := fun q => .ok (leafX 4 [] 0 0, q)) (A' := fun q => .ok (leafX 4 [] 0 0, q)) (sim_ok _) (sim_setF hr F F' [] hF)
theorem sim_arg {any any' : Nat → PR X} (ha : Sim m Eq any any') : Sim m Eq (argP h any) (argP h' any') :=
  sim_the (sim_need hr [40]) fun _ => sim_the ha fun e => sim_the (sim_need hr [41]) fun _ => sim_ok e
theorem sim_signed {one one' any any' : Nat → PR X} (ho : Sim m Eq one one') (ha : Sim m Eq any any') {F F' : Nat} (hF : F ≤ F') : Sim m Eq (signedP h F one any) (signedP h' F' one' any') :=
  sim_if hr (q := [45]) (by decide) (A := fun q => (one q).th fun x r => .ok (oneX 11 x, r)) (A' := fun q => (one' q).th fun x r => .ok (oneX 11 x, r)) (sim_the ho fun x => sim_ok _)
    (sim_if hr (q := [123]) (by decide) (A := setP h F) (A' := setP h' F') (sim_set hr hF) (sim_arg hr ha))
theorem sim_attr (side : Int) : Sim m Eq (attrP h side) (attrP h' side) :=
  sim_the (sim_need hr [46]) fun _ => sim_tht (sim_take hr (by decide)) fun t t' ht => by rw [ht.1]; exact sim_ok _
theorem sim_times : Sim m Eq (timesP h) (timesP h') :=
  sim_the (sim_need hr [40]) fun _ => sim_tht (sim_take hr (by decide)) fun t t' ht => sim_the (sim_need hr [44]) fun _ => sim_tht (sim_take hr (by decide)) fun u u' hu => sim_the (sim_need hr [41]) fun _ => by rw [ht.1, hu.2]; exact sim_ok _
theorem sim_act : Sim m Eq (actP h) (actP h') :=
  sim_the (sim_need hr [40]) fun _ => sim_tht (sim_take hr (by decide)) fun t t' ht => sim_the (sim_need hr [41]) fun _ => by rw [ht.1]; exact sim_ok _
theorem sim_span : Sim m Eq (spanP h) (spanP h') := by
  refine sim_the (sim_need hr [91]) fun _ => sim_tht (sim_take hr (by decide)) fun t t' ht => sim_the (sim_need hr [44]) fun _ => ?_
  rw [ht.2]
  refine sim_if hr (q := [42]) (by decide) (A := fun r2 => (needP h [93] r2).th fun _ r4 => .ok ((t.n, -1), r4)) (A' := fun r2 => (needP h' [93] r2).th fun _ r4 => .ok ((t.n, -1), r4)) (sim_the (sim_need hr [93]) fun _ => sim_ok _) ?_
  refine sim_tht (sim_take hr (by decide)) fun u u' hu => ?_
  rw [hu.2]
  by_cases hc : u.n < t.n
  · simp only [hc, if_true]; exact sim_error 16 _
  · simp only [hc, if_false]; exact sim_the (sim_need hr [93]) fun _ => sim_ok _
theorem sim_look (k : Int) {any any' : Nat → PR X} (ha : Sim m Eq any any') : Sim m Eq (lookP h k any) (lookP h' k any') :=
  sim_the (sim_span hr) fun lh => sim_the (sim_arg hr ha) fun e => sim_ok _
theorem sim_since {any any' : Nat → PR X} (ha : Sim m Eq any any') : Sim m Eq (sinceP h any) (sinceP h' any') :=
  sim_the (sim_span hr) fun lh => sim_the (sim_need hr [40]) fun _ => sim_the ha fun x => sim_the (sim_need hr [44]) fun _ => sim_the ha fun y => sim_the (sim_need hr [41]) fun _ => sim_ok _
theorem sim_timed {any any' : Nat → PR X} (ha : Sim m Eq any any') : Sim m Eq (timedP h any) (timedP h' any') :=
  sim_if hr (q := [111, 110, 99, 101]) (by decide) (A := lookP h 22 any) (A' := lookP h' 22 any') (sim_look hr 22 ha)
    (sim_if hr (q := [104, 105, 115, 116]) (by decide) (A := lookP h 23 any) (A' := lookP h' 23 any') (sim_look hr 23 ha)
    (sim_if hr (q := [115, 105, 110, 99, 101]) (by decide) (A := sinceP h any) (A' := sinceP h' any') (sim_since hr ha) (sim_error 16 _)))
theorem sim_named {one one' any any' : Nat → PR X} (ho : Sim m Eq one one') (ha : Sim m Eq any any') : Sim m Eq (namedP h one any) (namedP h' one' any') :=
  sim_if hr (q := [116, 114, 117, 101]) (by decide) (A := fun q => .ok (leafX 2 [] 1 0, q)) (A' := fun q => .ok (leafX 2 [] 1 0, q)) (sim_ok _)
    (sim_if hr (q := [102, 97, 108, 115, 101]) (by decide) (A := fun q => .ok (leafX 2 [] 0 0, q)) (A' := fun q => .ok (leafX 2 [] 0 0, q)) (sim_ok _)
    (sim_if hr (q := [110, 111, 119]) (by decide) (A := fun q => .ok (leafX 7 [] 0 0, q)) (A' := fun q => .ok (leafX 7 [] 0 0, q)) (sim_ok _)
    (sim_if hr (q := [110, 111, 116]) (by decide) (A := fun q => (one q).th fun x r => .ok (oneX 18 x, r)) (A' := fun q => (one' q).th fun x r => .ok (oneX 18 x, r)) (sim_the ho fun x => sim_ok _)
    (sim_if hr (q := [115]) (by decide) (A := attrP h 5) (A' := attrP h' 5) (sim_attr hr 5)
    (sim_if hr (q := [111]) (by decide) (A := attrP h 6) (A' := attrP h' 6) (sim_attr hr 6)
    (sim_if hr (q := [97, 99, 116]) (by decide) (A := actP h) (A' := actP h') (sim_act hr)
    (sim_if hr (q := [116, 105, 109, 101, 115]) (by decide) (A := timesP h) (A' := timesP h') (sim_times hr)
    (sim_if hr (q := [108, 101, 110]) (by decide) (A := fun q => (argP h any q).th fun x r => .ok (oneX 12 x, r)) (A' := fun q => (argP h' any' q).th fun x r => .ok (oneX 12 x, r)) (sim_the (sim_arg hr ha) fun x => sim_ok _)
    (sim_if hr (q := [112, 114, 101, 118]) (by decide) (A := fun q => (argP h any q).th fun x r => .ok (oneX 25 x, r)) (A' := fun q => (argP h' any' q).th fun x r => .ok (oneX 25 x, r)) (sim_the (sim_arg hr ha) fun x => sim_ok _)
    (sim_timed hr ha))))))))))
theorem sim_one {F F' : Nat} (hF : F ≤ F') (hm : ∀ k p x r, p ≤ m → oneF h F k p = .ok (x, r) → r ≤ m) : ∀ k, Sim m Eq (oneF h F (k + 1)) (oneF h' F' k)
  | 0 => by
    intro p x r hp hh
    exact ⟨hm _ _ _ _ hp hh, .inr ⟨p + 1, by rw [oneF]⟩⟩
  | k + 1 => by
    intro p x r hp hh
    have ih := sim_one hF hm k
    refine ⟨hm _ _ _ _ hp hh, ?_⟩
    have h1 : p < m := by
      rcases Nat.lt_or_ge p m with h1 | h1
      · exact h1
      · have : p = m := by omega
        subst this
        rw [oneF, hr.e] at hh
        simp at hh
    rw [oneF] at hh
    rw [oneF, hr.k p h1, hr.n p h1, hr.s p h1]
    split at hh
    · rename_i hk
      cases hh
      exact .inl ⟨_, rfl, by rw [if_pos hk]⟩
    · rename_i hk
      rw [if_neg hk]
      split at hh
      · rename_i hk
        cases hh
        exact .inl ⟨_, rfl, by rw [if_pos hk]⟩
      · rename_i hk
        rw [if_neg hk]
        split at hh
        · rename_i hk
          rw [if_pos hk]
          exact (sim_signed hr ih (sim_any hr ih hF) hF p x r hp hh).2
        · rename_i hk
          rw [if_neg hk]
          split at hh
          · rename_i hk
            rw [if_pos hk]
            exact (sim_named hr ih (sim_any hr ih hF) p x r hp hh).2
          · cases hh
end

/-- a text's words in parentheses -/
theorem take_paren {more : List Tk} {e : Int} (hk : ∀ t ∈ more, t.k ≠ 5) {a b c : Int} {x : X} {q : Nat} (ht : takeR (more ++ [⟨5, [], 0, e⟩]) = .ok (x, q)) (hq : (hereT (more ++ [⟨5, [], 0, e⟩]) q).k = 5) (hql : q < (more ++ [(⟨5, [], 0, e⟩ : Tk)]).length) :
    (takeR (⟨4, [40], 0, a⟩ :: more.map (fun t => { t with p := t.p + 1 }) ++ [⟨4, [41], 0, b⟩, ⟨5, [], 0, c⟩]) = .ok (x, more.length + 2) ∧ (hereT (⟨4, [40], 0, a⟩ :: more.map (fun t => { t with p := t.p + 1 }) ++ [⟨4, [41], 0, b⟩, ⟨5, [], 0, c⟩]) (more.length + 2)).k = 5) ∨
    ∃ p, takeR (⟨4, [40], 0, a⟩ :: more.map (fun t => { t with p := t.p + 1 }) ++ [⟨4, [41], 0, b⟩, ⟨5, [], 0, c⟩]) = .error (32, p) := by
  generalize hl : more ++ [(⟨5, [], 0, e⟩ : Tk)] = l at *
  generalize hl' : ((⟨4, [40], 0, a⟩ : Tk) :: more.map (fun t => { t with p := t.p + 1 }) ++ [⟨4, [41], 0, b⟩, ⟨5, [], 0, c⟩]) = l' at *
  have g1 : ∀ i (h : i < more.length), hereT l i = more[i] := fun i h => by
    have : l[i]? = some more[i] := by rw [← hl, List.getElem?_append_left h]; simp
    simp [hereT, this]
  have g2 : hereT l more.length = ⟨5, [], 0, e⟩ := by
    have : l[more.length]? = some ⟨5, [], 0, e⟩ := by rw [← hl]; simp
    simp [hereT, this]
  have g3 : ∀ i (h : i < more.length), hereT l' (i + 1) = { more[i] with p := more[i].p + 1 } := fun i h => by
    have : l'[i + 1]? = some { more[i] with p := more[i].p + 1 } := by
      rw [← hl', List.cons_append, List.getElem?_cons_succ, List.getElem?_append_left (by simpa using h), List.getElem?_map, List.getElem?_eq_getElem h]
      rfl
    simp [hereT, this]
  have g4 : hereT l' (more.length + 1) = ⟨4, [41], 0, b⟩ := by
    have : l'[more.length + 1]? = some ⟨4, [41], 0, b⟩ := by rw [← hl']; simp
    simp [hereT, this]
  have g5 : hereT l' (more.length + 2) = ⟨5, [], 0, c⟩ := by
    have : l'[more.length + 2]? = some ⟨5, [], 0, c⟩ := by rw [← hl']; simp
    simp [hereT, this]
  have g0 : hereT l' 0 = ⟨4, [40], 0, a⟩ := by
    have : l'[0]? = some ⟨4, [40], 0, a⟩ := by rw [← hl']; simp
    simp [hereT, this]
  have hr : Rel (hereT l) (hereT l') more.length := ⟨fun i h => by rw [g1 i h, g3 i h], fun i h => by rw [g1 i h, g3 i h], fun i h => by rw [g1 i h, g3 i h], by rw [g2], by rw [g4], by rw [g4]⟩
  have hlen : l.length = more.length + 1 := by rw [← hl]; simp
  have hlen' : l'.length = more.length + 3 := by rw [← hl']; simp
  have hqm : q = more.length := by
    rcases Nat.lt_or_ge q more.length with h | h
    · rw [g1 q h] at hq
      exact absurd hq (hk _ (List.getElem_mem h))
    · omega
  subst hqm
  have hF : l.length + 1 ≤ l'.length + 1 := by omega
  have hm : ∀ k p x r, p ≤ more.length → oneF (hereT l) (l.length + 1) k p = .ok (x, r) → r ≤ more.length := fun k p x r hp hh => by
    have b2 := bd_one (Wok_end (l := l) (m := more.length) (by rw [g2]) (by omega)) (l.length + 1) k _ _ _ hh
    have hb := bulk_pos x
    simp only [hp, if_true] at b2
    split at b2
    · assumption
    · omega
  have hs := sim_any hr (sim_one hr hF hm 31) hF
  unfold takeR at ht ⊢
  obtain ⟨_, h2⟩ := hs 0 x _ (by omega) ht
  have one0 : oneF (hereT l') (l'.length + 1) 32 0 = argP (hereT l') (anyP (hereT l') (l'.length + 1) (oneF (hereT l') (l'.length + 1) 31)) 0 := by
    rw [oneF, g0]
    have e1 : isB (hereT l') 0 [45] = false := by simp only [isB, g0]; decide
    have e2 : isB (hereT l') 0 [123] = false := by simp only [isB, g0]; decide
    simp [signedP, e1, e2]
  have n0 : needP (hereT l') [40] 0 = .ok ((), 1) := by
    unfold needP
    rw [if_pos]
    simp only [isB, g0]; decide
  rcases h2 with ⟨x', rfl, h2⟩ | ⟨p, h2⟩
  · left
    have n1 : needP (hereT l') [41] (more.length + 1) = .ok ((), more.length + 2) := by
      unfold needP
      rw [if_pos]
      simp only [isB, g4]; decide
    have h3 : oneF (hereT l') (l'.length + 1) 32 0 = .ok (x, more.length + 2) := by
      rw [one0]
      unfold argP
      rw [n0, th_ok, h2, th_ok, n1, th_ok]
    exact ⟨any_end h3 (by omega) (by rw [g5]), by rw [g5]⟩
  · right
    refine ⟨p, any_err ?_⟩
    rw [one0]
    unfold argP
    rw [n0, th_ok, h2, th_err]
end Go.Proofs.YtmhidempoabehaaGreatDoor.PS
/- The words of an expression's text, parsed: that expression. No condition. -/
namespace Go.Proofs.YtmhidempoabehaaGreatDoor.LX
set_option linter.unusedVariables false
set_option linter.unusedSimpArgs false
open Go AE EX PT NF PS
set_option maxRecDepth 100000

/-- these words stand from p on -/
def At (h : Nat → Tk) (p : Nat) : List WD → Prop
  | [] => True
  | w :: r => ((h p).k = w.1 ∧ (h p).s = w.2.1 ∧ (h p).n = w.2.2) ∧ At h (p + 1) r
theorem At_app {h : Nat → Tk} : ∀ {p : Nat} {a b : List WD}, At h p (a ++ b) ↔ At h p a ∧ At h (p + a.length) b
  | p, [], b => by simp [At]
  | p, w :: a, b => by
    have := @At_app h (p + 1) a b
    simp only [List.cons_append, At, this, List.length_cons, and_assoc]
    rw [show p + 1 + a.length = p + (a.length + 1) by omega]
theorem At_one {h : Nat → Tk} {p : Nat} {w : WD} : At h p [w] ↔ ((h p).k = w.1 ∧ (h p).s = w.2.1 ∧ (h p).n = w.2.2) := by simp [At]
/-- no sign between two stands here -/
def Cl (h : Nat → Tk) (q : Nat) : Prop := isB h q [42] = false ∧ isB h q [43] = false ∧ isB h q [45] = false ∧ isB h q [61] = false ∧ isB h q [33, 61] = false ∧ isB h q [60] = false ∧ isB h q [60, 61] = false ∧ isB h q [105, 110] = false ∧ isB h q [97, 110, 100] = false ∧ isB h q [111, 114] = false
theorem cl_sign {h : Nat → Tk} {q : Nat} {s : List UInt8} (hk : (h q).k = 4) (hs : (h q).s = s) (hn : s ≠ [42] ∧ s ≠ [43] ∧ s ≠ [45] ∧ s ≠ [61] ∧ s ≠ [33, 61] ∧ s ≠ [60] ∧ s ≠ [60, 61]) : Cl h q := by
  subst hs
  obtain ⟨h1, h2, h3, h4, h5, h6, h7⟩ := hn
  refine ⟨?_, ?_, ?_, ?_, ?_, ?_, ?_, ?_, ?_, ?_⟩ <;> simp only [isB, hk] <;> simp [*, kindOf]
theorem cl_end {h : Nat → Tk} {q : Nat} (hk : (h q).k = 5) : Cl h q :=
  ⟨is_end hk _, is_end hk _, is_end hk _, is_end hk _, is_end hk _, is_end hk _, is_end hk _, is_end hk _, is_end hk _, is_end hk _⟩
section
variable {h : Nat → Tk} {F : Nat} {one : Nat → PR X} {p q r : Nat} {a b : X}
theorem chain_no {ops : List (List UInt8 × Int)} {sub : Nat → PR X} (hs : sub p = .ok (a, q)) (hF : 0 < F) (ho : opAt h q ops = none) : chainP h F ops sub p = .ok (a, q) := by
  obtain ⟨F, rfl⟩ : ∃ k, F = k + 1 := ⟨F - 1, by omega⟩
  simp only [chainP, hs, th_ok, loopF, ho]
theorem chain_two {ops : List (List UInt8 × Int)} {sub : Nat → PR X} {k : Int} (hs : sub p = .ok (a, q)) (hF : 1 < F) (ho : opAt h q ops = some k) (hb : sub (q + 1) = .ok (b, r)) (hr : opAt h r ops = none) : chainP h F ops sub p = .ok (bothX k a b, r) := by
  obtain ⟨F, rfl⟩ : ∃ k, F = k + 1 + 1 := ⟨F - 2, by omega⟩
  simp only [chainP, hs, th_ok, loopF, ho, hb, hr]
theorem prod_no (hs : one p = .ok (a, q)) (hF : 0 < F) (h1 : isB h q [42] = false) : prodP h F one p = .ok (a, q) := chain_no hs hF (by simp [opAt, h1])
theorem sum_no (hs : prodP h F one p = .ok (a, q)) (hF : 0 < F) (h1 : isB h q [43] = false) (h2 : isB h q [45] = false) : sumP h F one p = .ok (a, q) := chain_no hs hF (by simp [opAt, h1, h2])
theorem rel_no {sub : Nat → PR X} (hs : sub p = .ok (a, q)) (h1 : isB h q [61] = false) (h2 : isB h q [33, 61] = false) (h3 : isB h q [60] = false) (h4 : isB h q [60, 61] = false) (h5 : isB h q [105, 110] = false) : relP h sub p = .ok (a, q) := by
  simp [relP, hs, th_ok, h1, h2, h3, h4, h5]
theorem all_no (hs : relP h (sumP h F one) p = .ok (a, q)) (hF : 0 < F) (h1 : isB h q [97, 110, 100] = false) : allP h F one p = .ok (a, q) := chain_no hs hF (by simp [opAt, h1])
theorem any_no (hs : allP h F one p = .ok (a, q)) (hF : 0 < F) (h1 : isB h q [111, 114] = false) : anyP h F one p = .ok (a, q) := chain_no hs hF (by simp [opAt, h1])
theorem sum_cl (hs : one p = .ok (a, q)) (hF : 0 < F) (hq : isB h q [42] = false ∧ isB h q [43] = false ∧ isB h q [45] = false) : sumP h F one p = .ok (a, q) := sum_no (prod_no hs hF hq.1) hF hq.2.1 hq.2.2
theorem rest_sum (hs : sumP h F one p = .ok (a, q)) (hF : 0 < F) (hq : Cl h q) : anyP h F one p = .ok (a, q) := by
  obtain ⟨h1, h2, h3, h4, h5, h6, h7, h8, h9, h10⟩ := hq
  exact any_no (all_no (rel_no hs h4 h5 h6 h7 h8) hF h9) hF h10
theorem any_cl (hs : one p = .ok (a, q)) (hF : 0 < F) (hq : Cl h q) : anyP h F one p = .ok (a, q) := rest_sum (sum_cl hs hF ⟨hq.1, hq.2.1, hq.2.2.1⟩) hF hq
theorem any_bin {k : Int} (hk : kb k) (hs : one p = .ok (a, q)) (hF : 1 < F) (ho : At h q [signW k]) (hb : one (q + 1) = .ok (b, r)) (hr : Cl h r) : anyP h F one p = .ok (bothX k a b, r) := by
  obtain ⟨g1, g2, _⟩ := At_one.1 ho
  have hr' := hr
  obtain ⟨h1, h2, h3, h4, h5, h6, h7, h8, h9, h10⟩ := hr'
  have hF0 : 0 < F := by omega
  have sb := sum_cl hb hF0 ⟨h1, h2, h3⟩
  have pb := prod_no hb hF0 h1
  have is : ∀ s, isB h q s = (((signW k).1 == kindOf s) && ((signW k).2.1 == s)) := fun s => by unfold isB; rw [g1, g2]
  rcases hk with rfl | rfl | rfl | rfl | rfl | rfl | rfl | rfl | rfl
  · exact rest_sum (chain_two (k := 8) (prod_no hs hF0 (by rw [is]; decide)) hF (by simp only [opAt, is]; decide) pb (by simp [opAt, h2, h3])) hF0 hr
  · exact rest_sum (chain_two (k := 9) (prod_no hs hF0 (by rw [is]; decide)) hF (by simp only [opAt, is]; decide) pb (by simp [opAt, h2, h3])) hF0 hr
  · exact rest_sum (sum_no (chain_two (k := 10) hs hF (by simp only [opAt, is]; decide) hb (by simp [opAt, h1])) hF0 h2 h3) hF0 hr
  · have sa := sum_cl hs hF0 ⟨by rw [is]; decide, by rw [is]; decide, by rw [is]; decide⟩
    exact any_no (all_no (by simp only [relP, sa, th_ok, is, sb]; rfl) hF0 h9) hF0 h10
  · have sa := sum_cl hs hF0 ⟨by rw [is]; decide, by rw [is]; decide, by rw [is]; decide⟩
    exact any_no (all_no (by simp only [relP, sa, th_ok, is, sb]; rfl) hF0 h9) hF0 h10
  · have sa := sum_cl hs hF0 ⟨by rw [is]; decide, by rw [is]; decide, by rw [is]; decide⟩
    exact any_no (all_no (by simp only [relP, sa, th_ok, is, sb]; rfl) hF0 h9) hF0 h10
  · have sa := sum_cl hs hF0 ⟨by rw [is]; decide, by rw [is]; decide, by rw [is]; decide⟩
    exact any_no (all_no (by simp only [relP, sa, th_ok, is, sb]; rfl) hF0 h9) hF0 h10
  · have sa := sum_cl hs hF0 ⟨by rw [is]; decide, by rw [is]; decide, by rw [is]; decide⟩
    have ra := rel_no sa (h := h) (by rw [is]; decide) (by rw [is]; decide) (by rw [is]; decide) (by rw [is]; decide) (by rw [is]; decide)
    have rb := rel_no sb h4 h5 h6 h7 h8
    exact any_no (chain_two (k := 19) ra hF (by simp only [opAt, is]; decide) rb (by simp [opAt, h9])) hF0 h10
  · have sa := sum_cl hs hF0 ⟨by rw [is]; decide, by rw [is]; decide, by rw [is]; decide⟩
    have ra := rel_no sa (h := h) (by rw [is]; decide) (by rw [is]; decide) (by rw [is]; decide) (by rw [is]; decide) (by rw [is]; decide)
    have rb := rel_no sb h4 h5 h6 h7 h8
    exact chain_two (k := 20) (all_no ra hF0 (by rw [is]; decide)) hF (by simp only [opAt, is]; decide) (all_no rb hF0 h9) (by simp [opAt, h10])
end

/-! ### one after another -/
theorem need_at {h : Nat → Tk} {p : Nat} {s : List UInt8} {rest : List WD} (hc : kindOf s = 4 := by decide) (ha : At h p ((4, s, 0) :: rest)) : needP h s p = .ok ((), p + 1) := by
  obtain ⟨⟨g1, g2, _⟩, _⟩ := ha
  unfold needP isB
  rw [if_pos (by rw [g1, g2, hc]; simp)]
theorem is_at {h : Nat → Tk} {p : Nat} {w : WD} {rest : List WD} (ha : At h p (w :: rest)) (s : List UInt8) : isB h p s = ((w.1 == kindOf s) && (w.2.1 == s)) := by
  obtain ⟨⟨g1, g2, _⟩, _⟩ := ha
  unfold isB
  rw [g1, g2]
theorem take_at {h : Nat → Tk} {p : Nat} {k n : Int} {s : List UInt8} {rest : List WD} (ha : At h p ((k, s, n) :: rest)) : ∃ t, takeP h k p = .ok (t, p + 1) ∧ t.s = s ∧ t.n = n := by
  obtain ⟨⟨g1, g2, g3⟩, _⟩ := ha
  exact ⟨h p, by unfold takeP; rw [if_pos g1], g2, g3⟩
theorem At.tail {h : Nat → Tk} {p : Nat} {w : WD} {rest : List WD} (ha : At h p (w :: rest)) : At h (p + 1) rest := ha.2
theorem cl_at {h : Nat → Tk} {q : Nat} {s : List UInt8} {rest : List WD} (ha : At h q ((4, s, 0) :: rest)) (hn : s ≠ [42] ∧ s ≠ [43] ∧ s ≠ [45] ∧ s ≠ [61] ∧ s ≠ [33, 61] ∧ s ≠ [60] ∧ s ≠ [60, 61]) : Cl h q := cl_sign ha.1.1 ha.1.2.1 hn

theorem span_at {h : Nat → Tk} {p : Nat} {lo hi : Int} {rest : List WD} (hh : hi = -1 ∨ lo ≤ hi) (ha : At h p (spanW lo hi ++ rest)) : spanP h p = .ok ((lo, hi), p + 5) := by
  simp only [spanW, List.cons_append, List.append_assoc, List.nil_append] at ha
  have a1 := ha.tail
  have a2 := a1.tail
  have a3 := a2.tail
  have a4 := a3.tail
  obtain ⟨t, h1, _, h2⟩ := take_at a1
  simp only [spanP, need_at (s := [91]) (by decide) ha, th_ok, h1, need_at (s := [44]) (by decide) a2]
  by_cases he : hi = -1
  · subst he
    have i1 : isB h (p + 1 + 1 + 1) [42] = true := by rw [is_at a3]; decide
    simp only [i1, if_true, need_at (s := [93]) (by decide) a4, th_ok, h2]
  · simp only [if_neg he] at a3
    obtain ⟨u, h3, _, h4⟩ := take_at a3
    have i1 : isB h (p + 1 + 1 + 1) [42] = false := by rw [is_at a3]; simp [kindOf]
    have hlt : ¬ hi < lo := by omega
    simp only [i1, Bool.false_eq_true, if_false, h3, th_ok, need_at (s := [93]) (by decide) a4, h2, h4, hlt]
theorem arg_at {h : Nat → Tk} {any : Nat → PR X} {p : Nat} {x : X} {w rest : List WD} (ha : At h p ((4, [40], 0) :: w ++ (4, [41], 0) :: rest)) (hx : any (p + 1) = .ok (x, p + 1 + w.length)) : argP h any p = .ok (x, p + 1 + w.length + 1) := by
  have a1 := ha.tail
  have a2 := (At_app.1 a1).2
  simp only [argP, need_at (s := [40]) (by decide) ha, th_ok, hx, need_at (s := [41]) (by decide) a2]

/-! ### sets -/
theorem set_at {h : Nat → Tk} : ∀ (ks ys : List X) (F p : Nat) (rest : List WD), SetOK (ks ++ ys) → ys ≠ [] → ys.length < F → (∀ y ∈ ks, ∃ nm, y = leafX 3 nm 0 0) →
    At h p (joinW (toksL ys) ++ (4, [125], 0) :: rest) → ∃ zs : List X, sameL zs ys = true ∧ zs.length = ys.length ∧ setF h F ks p = .ok (setX (ks ++ zs), p + (joinW (toksL ys)).length + 1)
  | ks, [], F, p, rest, _, hne, _, _, _ => absurd rfl hne
  | ks, y :: ys, 0, p, rest, _, _, hF, _, _ => by omega
  | ks, y :: ys, F + 1, p, rest, hok, _, hF, hks, ha => by
    have hlen := hok.1
    simp only [List.length_append, List.length_cons] at hlen hF
    obtain ⟨nm, tk, hy, hp, hord⟩ := hok.2 ks.length (by simp)
    rw [List.getElem?_append_right (Nat.le_refl _)] at hy
    simp at hy
    subst hy
    have htk : (X.mk 3 nm 0 0 0 tk []).toks = [(3, nm, 0)] := rfl
    simp only [toksL, joinW, htk, List.singleton_append, List.cons_append] at ha
    obtain ⟨t, h1, h2, _⟩ := take_at ha
    have a1 := ha.tail
    have hbad : setBad ks t.s = false := by
      unfold setBad
      rw [h2]
      have e1 : (ks.length == 8) = false := by simp; omega
      rw [e1, Bool.false_or]
      by_cases h0 : ks = []
      · subst h0; rfl
      · have hpos : 0 < ks.length := List.length_pos_iff.2 h0
        have hl : ks.getLast? = some ks[ks.length - 1] := by rw [List.getLast?_eq_getElem?]; simp [hpos]
        have hz := hord hpos (ks[ks.length - 1]) (by rw [List.getElem?_append_left (by omega)]; simp [hpos])
        have hls : lastS ks = (ks[ks.length - 1]).nm := by
          unfold lastS
          rw [hl]
          obtain ⟨nm', hm⟩ := hks _ (List.getElem_mem (show ks.length - 1 < ks.length by omega))
          rw [hm]; rfl
        rw [hls, hz]
        simp
    simp only [setF, h1, th_ok, hbad, Bool.false_eq_true, if_false]
    rw [h2]
    cases ys with
    | nil =>
      have i1 : isB h (p + 1) [125] = true := by
        rw [is_at (w := (4, [125], 0)) (rest := rest) (by simpa [toksL, joinTailW] using a1)]; decide
      refine ⟨[leafX 3 nm 0 0], by simp [sameL, leafX, X.same], rfl, ?_⟩
      simp only [i1, if_true]
      simp [toksL, joinW, joinTailW, htk]
    | cons z zs =>
      have a1' : At h (p + 1) ((4, [44], 0) :: (joinW (toksL (z :: zs)) ++ (4, [125], 0) :: rest)) := by
        simpa [toksL, joinTailW, joinW] using a1
      have i1 : isB h (p + 1) [125] = false := by rw [is_at a1']; decide
      obtain ⟨us, g1, g2, g3⟩ := set_at (ks ++ [leafX 3 nm 0 0]) (z :: zs) F (p + 1 + 1) rest (by
        refine ⟨by simp only [List.length_append, List.length_cons, List.length_nil]; simp only [List.length_cons] at hlen; omega, fun i hi => ?_⟩
        have hi' : i < (ks ++ X.mk 3 nm 0 0 0 tk [] :: z :: zs).length := by
          simp only [List.length_append, List.length_cons, List.length_nil] at hi ⊢; omega
        obtain ⟨nm2, tk2, w1, w2, w3⟩ := hok.2 i hi'
        have eq : ∀ j, (ks ++ [leafX 3 nm 0 0] ++ z :: zs)[j]? = (if j = ks.length then some (leafX 3 nm 0 0) else (ks ++ X.mk 3 nm 0 0 0 tk [] :: z :: zs)[j]?) := fun j => by
          by_cases hj : j = ks.length
          · subst hj; rw [if_pos rfl]; simp
          · have hu : ∀ u : X, ks.length ≤ j → (ks ++ u :: z :: zs)[j]? = (z :: zs)[j - ks.length - 1]? := fun u h0 => by
              rw [List.getElem?_append_right h0]
              obtain ⟨d, hd⟩ : ∃ d, j - ks.length = d + 1 := ⟨j - ks.length - 1, by omega⟩
              rw [hd]; simp
            rw [if_neg hj, List.append_assoc, List.singleton_append]
            by_cases hj2 : j < ks.length
            · rw [List.getElem?_append_left hj2, List.getElem?_append_left hj2]
            · rw [hu _ (by omega), hu _ (by omega)]
        have hnm : ∀ (j : Nat) (y : X), (ks ++ [leafX 3 nm 0 0] ++ z :: zs)[j]? = some y → ∃ y' : X, (ks ++ X.mk 3 nm 0 0 0 tk [] :: z :: zs)[j]? = some y' ∧ y'.nm = y.nm := fun j y hj => by
          rw [eq] at hj
          split at hj
          · rename_i e; subst e; cases hj; exact ⟨X.mk 3 nm 0 0 0 tk [], by simp, rfl⟩
          · exact ⟨y, hj, rfl⟩
        by_cases hie : i = ks.length
        · subst hie
          have e0 : (ks ++ X.mk 3 nm 0 0 0 tk [] :: z :: zs)[ks.length]? = some (X.mk 3 nm 0 0 0 tk []) := by simp
          rw [e0] at w1
          cases w1
          refine ⟨nm, true, by rw [eq, if_pos rfl]; rfl, w2, fun h0 y hy => ?_⟩
          obtain ⟨y', e1, e2⟩ := hnm _ y hy
          rw [← e2]
          exact w3 h0 y' e1
        · refine ⟨nm2, tk2, by rw [eq, if_neg hie]; exact w1, w2, fun h0 y hy => ?_⟩
          obtain ⟨y', e1, e2⟩ := hnm _ y hy
          rw [← e2]
          exact w3 h0 y' e1) (by simp) (by simp only [List.length_cons] at hF ⊢; omega) (by
        intro y hy
        rcases List.mem_append.1 hy with hy | hy
        · exact hks y hy
        · simp at hy; exact ⟨nm, hy⟩) a1'.tail
      refine ⟨leafX 3 nm 0 0 :: us, by simp [sameL, leafX, X.same, g1], by simp [g2], ?_⟩
      simp only [i1, Bool.false_eq_true, if_false, need_at (s := [44]) (by decide) a1', th_ok, g3, List.append_assoc, List.singleton_append]
      simp [toksL, joinW, joinTailW, htk]
      omega
theorem tail_len : ∀ r : List (List WD), r.length ≤ (joinTailW r).length
  | [] => by simp
  | x :: r => by
    have := tail_len r
    simp only [joinTailW, List.map_cons, List.flatten_cons, List.length_append, List.length_cons] at this ⊢
    omega
theorem toks_length : ∀ l : List X, (toksL l).length = l.length
  | [] => rfl
  | x :: l => by simp [toksL, toks_length l]
theorem toks_len (l : List X) : l.length ≤ (joinW (toksL l)).length + 1 := by
  cases l with
  | nil => simp
  | cons x r =>
    have h1 := tail_len (toksL r)
    have h2 := toks_length r
    simp only [toksL, joinW, List.length_append, List.length_cons]
    omega
end Go.Proofs.YtmhidempoabehaaGreatDoor.LX
/- parse.Take, evaluated. Condition: the world outside is closed. -/
namespace Go.Proofs.YtmhidempoabehaaGreatDoor.PS
set_option linter.unusedVariables false
set_option linter.unusedSimpArgs false
open Go AE EX PT NF LX
set_option maxRecDepth 100000

theorem esc15 (d : Nat) : E.esc 11 d = (d == 2 || d == 3 || d == 4 || d == 8) := by simp [E]
noncomputable def r015 : Code := cutC (bodyOf Tryz.f11) [0]
noncomputable def r115 : Code := cutC (bodyOf Tryz.f11) [1, 0]
noncomputable def B15 : Code := cutC (bodyOf Tryz.f11) [1, 1, 1]
noncomputable def O15 : Array Oper := opsOf (cutC (bodyOf Tryz.f11) [1, 1, 0])
theorem cut15 : cutD (bodyOf Tryz.f11) = some (.seq r015 (.seq r115 .skip), O15, ⟨.value (.tmp 9), #[], #[]⟩, B15) := rfl
theorem zv68 : zvQ Tryz.prog 61 = some (.agg [.int .i64 0, .int .i64 0]) := by kernel_rfl
theorem tz27 : zeroQ Tryz.prog 27 = some [.nilif] := by kernel_rfl
noncomputable def y26 : Code := cutC (bodyOf Tryz.f25) [1]
noncomputable def O26 : Array Oper := opsOf (cutC (bodyOf Tryz.f25) [0])
theorem cut26 : cutR (bodyOf Tryz.f25) = some (0, O26, 6, y26) := rfl

/-- the boxes of Take: its results, and the parser -/
def TB (l : List Tk) (e : X) (n : Int) (er : AV) (q : Nat) : List HBox := [⟨25, e.cells⟩, ⟨3, [.int .i64 n]⟩, ⟨27, [er]⟩, box l q 0]
def TSt (S0 : St) (l : List Tk) (e : X) (n : Int) (er : AV) (q : Nat) (more : List HBox) : St := ⟨S0.H ++ (TB l e n er q ++ more), S0.T⟩
def zX : X := leafX 0 [] 0 0
theorem zX_cells : zX.cells = z6 := rfl

theorem TSt_eq (S0 : St) (l : List Tk) (q : Nat) : PSt (S0.H ++ TB l zX 0 .nilif 0) S0.T (S0.H.length + 3) l q 0 = TSt S0 l zX 0 .nilif q [] := by
  simp [PSt, TSt, TB, List.set_append_right]
theorem TSt_get0 (S0 : St) (l : List Tk) (e : X) (n : Int) (er : AV) (q : Nat) (more : List HBox) : (TSt S0 l e n er q more).H[S0.H.length]? = some ⟨25, e.cells⟩ := by simp [TSt, TB]
theorem TSt_get1 (S0 : St) (l : List Tk) (e : X) (n : Int) (er : AV) (q : Nat) (more : List HBox) : (TSt S0 l e n er q more).H[S0.H.length + 1]? = some ⟨3, [.int .i64 n]⟩ := by simp [TSt, TB]
theorem TSt_get2 (S0 : St) (l : List Tk) (e : X) (n : Int) (er : AV) (q : Nat) (more : List HBox) : (TSt S0 l e n er q more).H[S0.H.length + 2]? = some ⟨27, [er]⟩ := by simp [TSt, TB]
theorem TSt_get3 (S0 : St) (l : List Tk) (e : X) (n : Int) (er : AV) (q : Nat) (more : List HBox) : (TSt S0 l e n er q more).H[S0.H.length + 3]? = some ⟨59, [.slice (tkL l) .non, .int .i64 q, .int .i64 0]⟩ := by simp [TSt, TB, box]
theorem TSt_set0 (S0 : St) (l : List Tk) (e e' : X) (n : Int) (er : AV) (q : Nat) (more : List HBox) : (⟨(TSt S0 l e n er q more).H.set S0.H.length ⟨25, e'.cells⟩, (TSt S0 l e n er q more).T⟩ : St) = TSt S0 l e' n er q more := by simp [TSt, TB]
theorem TSt_set1 (S0 : St) (l : List Tk) (e : X) (n n' : Int) (er : AV) (q : Nat) (more : List HBox) : (⟨(TSt S0 l e n er q more).H.set (S0.H.length + 1) ⟨3, [.int .i64 n']⟩, (TSt S0 l e n er q more).T⟩ : St) = TSt S0 l e n' er q more := by simp [TSt, TB]
theorem TSt_set2 (S0 : St) (l : List Tk) (e : X) (n : Int) (er er' : AV) (q : Nat) (more : List HBox) : (⟨(TSt S0 l e n er q more).H.set (S0.H.length + 2) ⟨27, [er']⟩, (TSt S0 l e n er q more).T⟩ : St) = TSt S0 l e n er' q more := by simp [TSt, TB]
theorem wf4 {S0 : St} (hw : lowB S0.H.length S0.T.length S0.H = true) (l : List Tk) : lowB (S0.H ++ TB l zX 0 .nilif 0).length S0.T.length (S0.H ++ TB l zX 0 .nilif 0) = true := by
  rw [lowB_append]
  simp only [List.length_append, Bool.and_eq_true]
  refine ⟨lowB_mono (lowB_mono (lowB_mono (lowB_mono hw))), ?_⟩
  have := box_low (S0.H.length + (TB l zX 0 .nilif 0).length) S0.T.length l 0 0
  simp [TB, lowB, AV.lowL, AV.low, zX, leafX, X.cells, embL, tokOf] at this ⊢
  exact this

set_option maxHeartbeats 4000000 in
/-- no panic: nothing -/
theorem ev26n (n : Nat) (S0 : St) (l : List Tk) (e : X) (k : Int) (er : AV) (q : Nat) :
    evd Tryz.prog E (n + 2) 25 [.ptr S0.H.length 0, .ptr (S0.H.length + 1) 0, .ptr (S0.H.length + 2) 0] (TSt S0 l e k er q []) none = some (false, TSt S0 l e k er q []) := by
  rw [evd_enter (show E.ok 25 = true from rfl), evDefer, Tryz.func25]
  have hb : Tryz.f25.body = some (bodyOf Tryz.f25) := rfl
  simp only [hb]
  rw [if_pos ⟨Nat.le_of_ble_eq_true rfl, by decide +kernel⟩, cut26]
  have hr : List.range' 1 (O26.size - 1) = [1, 2, 3, 4, 5, 6, 7] := rfl
  have hf : finish (TSt S0 l e k er q []) (.tup []) (TSt S0 l e k er q []) = some (.tup [], TSt S0 l e k er q []) := finish_same rfl rfl rfl rfl rfl
  simp only [hr]
  generalize TSt S0 l e k er q [] = L1 at *
  simp (disch := first | (simp only [List.length_append, List.length_cons, List.length_nil]; omega) | (simp; done) | assumption) [AV.cells?, AV.isCell, seqA, O26, opsOf, y26, pvOf, cutC, bodyOf, Tryz.f25, E_esc, evAssert, tn68, tz68, tc68, ta68, tk68, ti68, zv68, endD, hf]

set_option maxHeartbeats 8000000 in
/-- a panic of fail: the fault, new -/
theorem ev26p (n : Nat) (S0 : St) (l : List Tk) (q : Nat) (c pl : Int) :
    evd Tryz.prog E (n + 2) 25 [.ptr S0.H.length 0, .ptr (S0.H.length + 1) 0, .ptr (S0.H.length + 2) 0] (TSt S0 l zX 0 .nilif q []) (some (.iface 61 (.agg [.int .i64 c, .int .i64 pl]))) =
      some (true, TSt S0 l zX 0 (.iface 64 (.ptr (S0.H.length + 4) 0)) q [⟨66, [.int .i64 c, .int .i64 pl, .nilif]⟩]) := by
  rw [evd_enter (show E.ok 25 = true from rfl), evDefer, Tryz.func25]
  have hb : Tryz.f25.body = some (bodyOf Tryz.f25) := rfl
  simp only [hb]
  rw [if_pos ⟨Nat.le_of_ble_eq_true rfl, by decide +kernel⟩, cut26]
  have hr : List.range' 1 (O26.size - 1) = [1, 2, 3, 4, 5, 6, 7] := rfl
  have hlen : (TSt S0 l zX 0 .nilif q []).H.length = S0.H.length + 4 := by simp [TSt, TB]
  have hN : ev Tryz.prog E (n + 1) 15 [.int .i64 c, .int .i64 pl] (TSt S0 l zX 0 .nilif q []) = some (.ret (.iface 64 (.ptr (S0.H.length + 4) 0)), TSt S0 l zX 0 .nilif q [⟨66, [.int .i64 c, .int .i64 pl, .nilif]⟩]) := by
    rw [ev_New, hlen]
    simp [TSt, TB]
  have hg0 := TSt_get0 S0 l zX 0 .nilif q [⟨66, [.int .i64 c, .int .i64 pl, .nilif]⟩]
  have hg1 := TSt_get1 S0 l zX 0 .nilif q [⟨66, [.int .i64 c, .int .i64 pl, .nilif]⟩]
  have hg2 := TSt_get2 S0 l zX 0 .nilif q [⟨66, [.int .i64 c, .int .i64 pl, .nilif]⟩]
  have hs0 := TSt_set0 S0 l zX zX 0 .nilif q [⟨66, [.int .i64 c, .int .i64 pl, .nilif]⟩]
  have hs1 := TSt_set1 S0 l zX 0 0 .nilif q [⟨66, [.int .i64 c, .int .i64 pl, .nilif]⟩]
  have hs2 := TSt_set2 S0 l zX 0 .nilif (.iface 64 (.ptr (S0.H.length + 4) 0)) q [⟨66, [.int .i64 c, .int .i64 pl, .nilif]⟩]
  have hf : finish (TSt S0 l zX 0 .nilif q []) (.tup []) (TSt S0 l zX 0 (.iface 64 (.ptr (S0.H.length + 4) 0)) q [⟨66, [.int .i64 c, .int .i64 pl, .nilif]⟩]) = some (.tup [], TSt S0 l zX 0 (.iface 64 (.ptr (S0.H.length + 4) 0)) q [⟨66, [.int .i64 c, .int .i64 pl, .nilif]⟩]) := by
    have e1 : (TSt S0 l zX 0 (.iface 64 (.ptr (S0.H.length + 4) 0)) q [⟨66, [.int .i64 c, .int .i64 pl, .nilif]⟩]).H.take (S0.H.length + 4) = (TSt S0 l zX 0 (.iface 64 (.ptr (S0.H.length + 4) 0)) q []).H := by
      have e2 : ∀ more, (TSt S0 l zX 0 (.iface 64 (.ptr (S0.H.length + 4) 0)) q more).H = (S0.H ++ TB l zX 0 (.iface 64 (.ptr (S0.H.length + 4) 0)) q) ++ more := fun more => by simp [TSt]
      rw [e2, e2, List.append_nil]
      exact List.take_left' (by simp [TB])
    unfold finish
    rw [hlen, e1, if_pos (show (AV.tup []).sealed = true from rfl), if_neg, if_neg, if_neg]
    · simp only [Bool.and_eq_true, not_and, Bool.not_eq_true]
      rintro ⟨_, h1⟩
      simp [TSt, TB, lowB_append, lowB, AV.lowL, AV.low] at h1
    · simp only [Bool.and_eq_true, not_and, Bool.not_eq_true]
      rintro ⟨⟨_, _⟩, h1⟩
      simp [TSt, TB, lowB_append, lowB, AV.lowL, AV.low] at h1
    · simp only [Bool.and_eq_true, not_and, Bool.not_eq_true]
      rintro ⟨h1, _⟩
      have := boxEqL_spec _ _ h1
      simp [TSt, TB] at this
  have hbz := bXz
  have hcz := xcells zX
  have hlz := xlen zX
  have hsz := sealed_emb zX
  have hszc : AV.sealedL zX.cells = true := rfl
  have hdz : List.drop 6 zX.cells = [] := rfl
  have e0 : leafX 0 [] 0 0 = zX := rfl
  rw [e0] at hbz
  simp only [hr]
  generalize TSt S0 l zX 0 (.iface 64 (.ptr (S0.H.length + 4) 0)) q [⟨66, [.int .i64 c, .int .i64 pl, .nilif]⟩] = L3 at *
  generalize TSt S0 l zX 0 .nilif q [⟨66, [.int .i64 c, .int .i64 pl, .nilif]⟩] = L2 at *
  generalize TSt S0 l zX 0 .nilif q [] = L1 at *
  generalize zX.cells = zc at *
  generalize zX.emb = ze at *
  simp (disch := first | (simp only [List.length_append, List.length_cons, List.length_nil]; omega) | (simp; done) | assumption) [AV.cells?, AV.isCell, -AV.cells?, cq_int, cq_iface, cq_agg, -evBuild, seqA, O26, opsOf, y26, pvOf, cutC, bodyOf, Tryz.f25, E_esc, evAssert, tn68, tz68, tc68, ta68, tk68, ti68, zv68, endD, tq68_0, tq68_1, k3, c3, a3, i3, tk30, tc30, ta30, hN, hg0, hg1, hg2, hs0, hs1, hs2, hbz, hcz, hlz, hszc, hdz, List.append_nil, AV.sealed, AV.sealedL, c24, i24, tc27, ti27, hf]
end Go.Proofs.YtmhidempoabehaaGreatDoor.PS
/- parse.Take, evaluated whole. Condition: the world outside is closed. -/
namespace Go.Proofs.YtmhidempoabehaaGreatDoor.PS
set_option linter.unusedVariables false
set_option linter.unusedSimpArgs false
open Go AE EX PT NF LX
set_option maxRecDepth 100000

theorem fin_take (S0 : St) (l : List Tk) (x : X) (k : Int) (q : Nat) : finish S0 (.tup [x.emb, .int .i64 k, .nilif]) (TSt S0 l x k .nilif q []) = some (.tup [x.emb, .int .i64 k, .nilif], S0) := by
  have h1 := sealed_emb x
  have h2 := strip_emb S0.T.length x
  have h3 := low_emb S0.H.length S0.T.length x
  have h4 : (TSt S0 l x k .nilif q []).H.take S0.H.length = S0.H := by simp [TSt]
  have h5 : (TSt S0 l x k .nilif q []).T = S0.T := rfl
  unfold finish
  simp [AV.sealed, AV.sealedL, AV.strip, AV.stripL, AV.low, AV.lowL, h1, h2, h3, h4, h5, boxEqL_refl]
theorem fin_hi3 {S S' : St} {id : Nat} (h : S.H.length ≤ id) (w u : AV) (h1 : w.sealed = true) (h2 : u.sealed = true) : finish S (.tup [w, u, .iface 64 (.ptr id 0)]) S' = some (.tup [w, u, .iface 64 (.ptr id 0)], S') := by
  unfold finish
  have : ¬ id < S.H.length := by omega
  simp [AV.sealed, AV.sealedL, AV.strip, AV.stripL, AV.low, AV.lowL, this, h1, h2]

/-- what Take hands back -/
def takeAns (S0 : St) (l : List Tk) : Option (Res × St) :=
  match takeR l with
  | .ok (x, q) => some (.ret (.tup [x.emb, .int .i64 q, .nilif]), S0)
  | .error (c, p) => some (.ret (.tup [zX.emb, .int .i64 0, .iface 64 (.ptr (S0.H.length + 4) 0)]),
      TSt S0 l zX 0 (.iface 64 (.ptr (S0.H.length + 4) 0)) p [⟨66, [.int .i64 c, .int .i64 (hereT l p).p, .nilif]⟩])

set_option maxHeartbeats 8000000 in
theorem ev_Take (n : Nat) (S0 : St) (l : List Tk) (hl : l.length ≤ 2000000) (hw : lowB S0.H.length S0.T.length S0.H = true) (hn : l.length + 710 ≤ n) :
    ev Tryz.prog E (n + 5) 11 [.slice (tkL l) .non] S0 = takeAns S0 l := by
  have hE4 : TSt S0 l zX 0 .nilif 0 [] = PSt (S0.H ++ TB l zX 0 .nilif 0) S0.T (S0.H.length + 3) l 0 0 := (TSt_eq S0 l 0).symm
  have hA := any_all S0.T l hl (S0.H ++ TB l zX 0 .nilif 0) (S0.H.length + 3) (by simp [TB]) (wf4 hw l) (n + 4) (by omega)
  rw [← hE4] at hA
  rw [show n + 5 = (n + 4) + 1 from rfl, ev_enterD (n := n + 4) (show E.ok 11 = true from rfl) (show E.dfr 11 = true from rfl) Tryz.func11 (fn := Tryz.f11) (c := bodyOf Tryz.f11) rfl cut15 (Nat.le_of_ble_eq_true rfl) (by decide +kernel)]
  obtain ⟨fs1, e1, q2, q3, q4, q5, qS⟩ : ∃ fs1, evCode ⟨Tryz.prog, E.esc 11, n + 4⟩ (ev Tryz.prog E (n + 4)) (E.ps 11) (n + 4) (.seq r015 (.seq r115 .skip)) ⟨argsA [.slice (tkL l) .non], fun _ => (0, []), 0, S0⟩ = some (.norm, fs1) ∧ fs1.t 2 = .ptr S0.H.length 0 ∧ fs1.t 3 = .ptr (S0.H.length + 1) 0 ∧ fs1.t 4 = .ptr (S0.H.length + 2) 0 ∧ fs1.t 5 = .ptr (S0.H.length + 3) 0 ∧ fs1.S = TSt S0 l zX 0 .nilif 0 [] := by
    have hst := sealed_tkL l
    have hTB : TSt S0 l zX 0 .nilif 0 [] = ⟨S0.H ++ [⟨25, z6⟩] ++ [⟨3, [.int .i64 0]⟩] ++ [⟨27, [.nilif]⟩] ++ [⟨59, [.slice (tkL l) .non, .int .i64 0, .int .i64 0]⟩], S0.T⟩ := by
      simp [TSt, TB, zX_cells, box]
    have hbd : evBuild Tryz.prog 59 [(0, .slice (tkL l) .non)] = some (.agg [.slice (tkL l) .non, .int .i64 0, .int .i64 0]) := by
      simp [evBuild, tp66, tz66, fillA, tl66_0, AV.cells?, wrc]
    have hz3 : zeroQ Tryz.prog 3 = some [.int .i64 0] := by kernel_rfl
    have hz25 : zeroQ Tryz.prog 25 = some z6 := by kernel_rfl
    have hsz : AV.sealedL z6 = true := rfl
    generalize tkL l = es at *
    rw [hTB]
    generalize z6 = z at *
    refine ⟨_, by
      simp (disch := first | (simp only [List.length_append, List.length_cons, List.length_nil]; omega) | (simp; done) | assumption) [AV.cells?, AV.isCell, -evBuild, r015, r115, cutC, bodyOf, Tryz.f11, esc15, hz3, hz25, tz27, hsz, AV.sealed, AV.sealedL, hst, hbd]
      rfl, by simp [upd, putA], by simp [upd, putA], by simp [upd, putA], by simp [upd, putA], by simp⟩
  rw [e1]
  clear e1
  obtain ⟨t, b, c, S⟩ := fs1
  simp only at q2 q3 q4 q5 qS
  subst qS
  have hsq : seqA ⟨Tryz.prog, E.esc 11, n + 4⟩ (ev Tryz.prog E (n + 4)) O15 (List.range (O15.size - 1)) ⟨t, b, c, TSt S0 l zX 0 .nilif 0 []⟩ = some (.ok ⟨upd 9 (.fn 25 [] [.ptr S0.H.length 0, .ptr (S0.H.length + 1) 0, .ptr (S0.H.length + 2) 0]) t, b, c, TSt S0 l zX 0 .nilif 0 []⟩ .non) := by
    have hr : List.range (O15.size - 1) = [0] := rfl
    have ho0 : ∃ o, O15[0]? = some o ∧ o.guard = none ∧ o.dst = some 9 ∧ o.op = .makeFunc (.func 25) #[] #[.tmp 2, .tmp 3, .tmp 4] := ⟨_, rfl, rfl, rfl, rfl⟩
    obtain ⟨o, o1, o2, o3, o4⟩ := ho0
    rw [hr]
    simp only [seqA, o1, stepA, o2, wantedA, evOp, o4, o3, putA, rhoL, rho, q2, q3, q4, List.map_nil, List.map_cons]
  have hsz : O15.size = 2 := rfl
  simp only [hsq]
  simp only [rho, upd, if_true, hsz]
  unfold takeAns
  cases hR : takeR l with
  | ok r =>
    obtain ⟨x, q⟩ := r
    rw [hR, ansX_ok] at hA
    have hq : PSt (S0.H ++ TB l zX 0 .nilif 0) S0.T (S0.H.length + 3) l q 0 = TSt S0 l zX 0 .nilif q [] := TSt_eq S0 l q
    rw [hq] at hA
    have hD := ev26n (n + 2) S0 l x q .nilif q
    have hB : ∃ fs2, evCode ⟨Tryz.prog, E.esc 11, n + 4⟩ (ev Tryz.prog E (n + 4)) (E.ps 11) (n + 4) B15 ⟨upd 9 (.fn 25 [] [.ptr S0.H.length 0, .ptr (S0.H.length + 1) 0, .ptr (S0.H.length + 2) 0]) t, b, c + 2, TSt S0 l zX 0 .nilif 0 []⟩ = some (.ret, fs2) ∧ fs2.t 2 = .ptr S0.H.length 0 ∧ fs2.t 3 = .ptr (S0.H.length + 1) 0 ∧ fs2.t 4 = .ptr (S0.H.length + 2) 0 ∧ fs2.S = TSt S0 l x q .nilif q [] := by
      have g0 := TSt_get0 S0 l zX 0 .nilif q []
      have g0' := TSt_get0 S0 l x 0 .nilif q []
      have g3' := TSt_get3 S0 l x 0 .nilif q []
      have g1' := TSt_get1 S0 l x 0 .nilif q []
      have g2' := TSt_get2 S0 l x q .nilif q []
      have s0 := TSt_set0 S0 l zX x 0 .nilif q []
      have s0' := TSt_set0 S0 l x x 0 .nilif q []
      have s1 := TSt_set1 S0 l x 0 q .nilif q []
      have s2 := TSt_set2 S0 l x q .nilif .nilif q []
      have hps : E.ps 11 4 = [(0, 4), (4, 5)] := rfl
      have hlz : zX.cells.length = 6 := xlen zX
      have hdz : List.drop 6 zX.cells = [] := rfl
      have hcx := xcells x
      have hlx := xlen x
      have htx := xtake x
      have hex := xemb x
      have hdx : List.drop 6 x.cells = [] := List.drop_eq_nil_of_le (by rw [hlx]; omega)
      have hsx : AV.sealedL x.cells = true := by have := sealed_emb x; rw [emb_cells] at this; simpa [AV.sealed] using this
      generalize TSt S0 l x q .nilif q [] = L5 at *
      generalize TSt S0 l x 0 .nilif q [] = L4 at *
      generalize TSt S0 l zX 0 .nilif q [] = L3 at *
      generalize TSt S0 l zX 0 .nilif 0 [] = L2 at *
      generalize zX.cells = zc at *
      generalize x.cells = xc at *
      generalize x.emb = xe at *
      generalize tkL l = es at *
      refine ⟨_, by
        simp (disch := first | (simp only [List.length_append, List.length_cons, List.length_nil]; omega) | (simp; done) | assumption) [AV.cells?, AV.isCell, -AV.cells?, cq_int, cq_nilif, B15, cutC, bodyOf, Tryz.f11, esc15, q2, q3, q4, q5, hA, g0, g0', g3', g1', g2', s0, s0', s1, s2, hps, hlz, hdz, hcx, hlx, htx, hex, hdx, hsx, List.append_nil, c24, a24, k24, i24, tq66_1, tk66, k3, c3, a3, i3, tk27, tc27, ta27, ti27, AV.sealed, AV.sealedL, ofC]
        rfl, by simp [upd, putA, q2], by simp [upd, putA, q3], by simp [upd, putA, q4], rfl⟩
    obtain ⟨⟨t2, b2, c2, S2⟩, r1, w2, w3, w4, wS⟩ := hB
    simp only at w2 w3 w4 wS
    subst wS
    rw [r1]
    have hD' := ev26n (n + 2) S0 l x q .nilif q
    simp only [fromD, List.nil_append, rhoL, List.map_nil, hD']
    have g0 := TSt_get0 S0 l x q .nilif q []
    have g1 := TSt_get1 S0 l x q .nilif q []
    have g2 := TSt_get2 S0 l x q .nilif q []
    have hf := fin_take S0 l x q q
    have hrs : Tryz.f11.results.toList = [.cell 2 25, .cell 3 3, .cell 4 27] := rfl
    have hlx := xlen x
    have htx := xtake x
    have hex := xemb x
    generalize TSt S0 l x q .nilif q [] = L5 at *
    generalize x.cells = xc at *
    generalize x.emb = xe at *
    simp (disch := first | (simp only [List.length_append, List.length_cons, List.length_nil]; omega) | (simp; done) | assumption) [AV.cells?, AV.isCell, -AV.cells?, hrs, w2, w3, w4, g0, g1, g2, hlx, htx, hex, hf, c24, a24, k24, k3, c3, a3, tk27, tc27, ta27]
  | error e =>
    obtain ⟨c', p⟩ := e
    rw [hR, ansX_err] at hA
    have hq : PSt (S0.H ++ TB l zX 0 .nilif 0) S0.T (S0.H.length + 3) l p 0 = TSt S0 l zX 0 .nilif p [] := TSt_eq S0 l p
    rw [hq] at hA
    have hB : ∃ fs2, evCode ⟨Tryz.prog, E.esc 11, n + 4⟩ (ev Tryz.prog E (n + 4)) (E.ps 11) (n + 4) B15 ⟨upd 9 (.fn 25 [] [.ptr S0.H.length 0, .ptr (S0.H.length + 1) 0, .ptr (S0.H.length + 2) 0]) t, b, c + 2, TSt S0 l zX 0 .nilif 0 []⟩ = some (.pan (stopV (hereT l) c' p), fs2) ∧ fs2.t 2 = .ptr S0.H.length 0 ∧ fs2.t 3 = .ptr (S0.H.length + 1) 0 ∧ fs2.t 4 = .ptr (S0.H.length + 2) 0 ∧ fs2.S = TSt S0 l zX 0 .nilif p [] := by
      generalize TSt S0 l zX 0 .nilif p [] = L3 at *
      generalize TSt S0 l zX 0 .nilif 0 [] = L2 at *
      generalize tkL l = es at *
      generalize stopV (hereT l) c' p = sv at *
      refine ⟨_, by
        simp (disch := first | (simp only [List.length_append, List.length_cons, List.length_nil]; omega) | (simp; done) | assumption) [AV.cells?, AV.isCell, -AV.cells?, cq_int, cq_nilif, B15, cutC, bodyOf, Tryz.f11, esc15, q2, q3, q4, q5, hA]
        rfl, by simp [upd, putA, q2], by simp [upd, putA, q3], by simp [upd, putA, q4], rfl⟩
    obtain ⟨⟨t2, b2, c2, S2⟩, r1, w2, w3, w4, wS⟩ := hB
    simp only at w2 w3 w4 wS
    subst wS
    rw [r1]
    have hD' := ev26p (n + 2) S0 l p c' (hereT l p).p
    have hsv : stopV (hereT l) c' p = .iface 61 (.agg [.int .i64 c', .int .i64 (hereT l p).p]) := rfl
    rw [hsv]
    simp only [fromD, List.nil_append, rhoL, List.map_nil, hD']
    have g0 := TSt_get0 S0 l zX 0 (.iface 64 (.ptr (S0.H.length + 4) 0)) p [⟨66, [.int .i64 c', .int .i64 (hereT l p).p, .nilif]⟩]
    have g1 := TSt_get1 S0 l zX 0 (.iface 64 (.ptr (S0.H.length + 4) 0)) p [⟨66, [.int .i64 c', .int .i64 (hereT l p).p, .nilif]⟩]
    have g2 := TSt_get2 S0 l zX 0 (.iface 64 (.ptr (S0.H.length + 4) 0)) p [⟨66, [.int .i64 c', .int .i64 (hereT l p).p, .nilif]⟩]
    have hf := fin_hi3 (S := S0) (S' := TSt S0 l zX 0 (.iface 64 (.ptr (S0.H.length + 4) 0)) p [⟨66, [.int .i64 c', .int .i64 (hereT l p).p, .nilif]⟩]) (show S0.H.length ≤ S0.H.length + 4 by omega) zX.emb (.int .i64 0) (sealed_emb _) rfl
    have hrs : Tryz.f11.results.toList = [.cell 2 25, .cell 3 3, .cell 4 27] := rfl
    have hlx := xlen zX
    have htx := xtake zX
    have hex := xemb zX
    generalize TSt S0 l zX 0 (.iface 64 (.ptr (S0.H.length + 4) 0)) p [⟨66, [.int .i64 c', .int .i64 (hereT l p).p, .nilif]⟩] = L5 at *
    generalize zX.cells = xc at *
    generalize zX.emb = xe at *
    simp (disch := first | (simp only [List.length_append, List.length_cons, List.length_nil]; omega) | (simp; done) | assumption) [AV.cells?, AV.isCell, -AV.cells?, hrs, w2, w3, w4, g0, g1, g2, hlx, htx, hex, hf, c24, a24, k24, k3, c3, a3, tk27, tc27, ta27]
end Go.Proofs.YtmhidempoabehaaGreatDoor.PS
/- fault.Code, Place, Wrap, evaluated. No condition. -/
namespace Go.Proofs.YtmhidempoabehaaGreatDoor.PS
set_option linter.unusedVariables false
set_option linter.unusedSimpArgs false
open Go AE EX PT NF LX
set_option maxRecDepth 100000

theorem esc9 (d : Nat) : E.esc 13 d = (d == 3) := by simp [E]
theorem esc13 (d : Nat) : E.esc 14 d = (d == 3) := by simp [E]
theorem esc16 (d : Nat) : E.esc 12 d = (d == 13) := by simp [E]
theorem ev_As (n : Nat) (args : List AV) (S : St) : ev Tryz.prog E (n + 1) 27 args S = asX args S := by
  have h : ev Tryz.prog E (n + 1) 27 args S = (if E.ok 27 then (if E.dfr 27 then evFuncD Tryz.prog E (ev Tryz.prog E n) (evd Tryz.prog E n) n 27 args S else evFunc Tryz.prog E (ev Tryz.prog E n) n 27 args S) else E.ext 27 args S) := rfl
  rw [h]
  rfl
theorem fin_low {S : St} (H1 : List HBox) (v : AV) (h1 : v.sealed = true) (h2 : v.strip S.T.length = v) (h3 : v.low S.H.length S.T.length = true) : finish S v ⟨S.H ++ H1, S.T⟩ = some (v, S) := by
  unfold finish
  simp [h1, h2, h3, boxEqL_refl]

theorem ev_Code (n : Nat) (S : St) (id : Nat) (c a : Int) (e : AV) (h : S.H[id]? = some ⟨66, [.int .i64 c, .int .i64 a, e]⟩) :
    ev Tryz.prog E (n + 2) 13 [.iface 64 (.ptr id 0)] S = some (.ret (.int .i64 c), S) := by
  have hid : id < S.H.length := (List.getElem?_eq_some_iff.1 h).1
  have hid' : S.H[id] = ⟨66, [.int .i64 c, .int .i64 a, e]⟩ := (List.getElem?_eq_some_iff.1 h).2
  have hA : ev Tryz.prog E (n + 1) 27 [.iface 64 (.ptr id 0), .iface 68 (.ptr S.H.length 0)] ⟨S.H ++ [⟨41, [.int .i64 0]⟩], S.T⟩ = some (.ret (.bool true), ⟨S.H ++ [⟨41, [.int .i64 c]⟩], S.T⟩) := by
    rw [ev_As]
    have h1 : (S.H ++ [(⟨41, [.int .i64 0]⟩ : HBox)])[id]? = some ⟨66, [.int .i64 c, .int .i64 a, e]⟩ := by rw [List.getElem?_append_left hid]; exact h
    have h2 : (S.H ++ [(⟨41, [.int .i64 0]⟩ : HBox)])[S.H.length]? = some ⟨41, [.int .i64 0]⟩ := by simp
    simp only [asX, h1, h2]
    simp
  have hz30 : zeroQ Tryz.prog 41 = some [.int .i64 0] := by kernel_rfl
  have hf := fin_low (S := S) [⟨41, [.int .i64 c]⟩] (.int .i64 c) rfl rfl rfl
  have hg : (S.H ++ [(⟨41, [.int .i64 c]⟩ : HBox)])[S.H.length]? = some ⟨41, [.int .i64 c]⟩ := by simp
  rw [show n + 2 = (n + 1) + 1 from rfl, ev_enter (n := n + 1) (show E.ok 13 = true from rfl) Tryz.func13 (fn := Tryz.f13) rfl (Nat.le_of_ble_eq_true rfl) (by decide +kernel)]
  simp (disch := first | (simp only [List.length_append, List.length_cons, List.length_nil]; omega) | (simp; done) | assumption) [AV.cells?, AV.isCell, Tryz.f13, esc9, hz30, tn51, hA, hg, hf, tk30, tc30, ta30, AV.sealed, AV.sealedL]
theorem ev_Code0 (n : Nat) (S : St) : ev Tryz.prog E (n + 2) 13 [.nilif] S = some (.ret (.int .i64 0), S) := by
  have hA : ev Tryz.prog E (n + 1) 27 [.nilif, .iface 68 (.ptr S.H.length 0)] ⟨S.H ++ [⟨41, [.int .i64 0]⟩], S.T⟩ = some (.ret (.bool false), ⟨S.H ++ [⟨41, [.int .i64 0]⟩], S.T⟩) := by
    rw [ev_As]; rfl
  have hz30 : zeroQ Tryz.prog 41 = some [.int .i64 0] := by kernel_rfl
  have hf := fin_low (S := S) [⟨41, [.int .i64 0]⟩] (.int .i64 0) rfl rfl rfl
  rw [show n + 2 = (n + 1) + 1 from rfl, ev_enter (n := n + 1) (show E.ok 13 = true from rfl) Tryz.func13 (fn := Tryz.f13) rfl (Nat.le_of_ble_eq_true rfl) (by decide +kernel)]
  simp (disch := first | (simp only [List.length_append, List.length_cons, List.length_nil]; omega) | (simp; done) | assumption) [AV.cells?, AV.isCell, Tryz.f13, esc9, hz30, tn51, hA, hf, tk30, tc30, ta30, AV.sealed, AV.sealedL]
theorem ev_Place (n : Nat) (S : St) (id : Nat) (c a : Int) (e : AV) (h : S.H[id]? = some ⟨66, [.int .i64 c, .int .i64 a, e]⟩) :
    ev Tryz.prog E (n + 2) 14 [.iface 64 (.ptr id 0)] S = some (.ret (.int .i64 a), S) := by
  have hid : id < S.H.length := (List.getElem?_eq_some_iff.1 h).1
  have hA : ev Tryz.prog E (n + 1) 27 [.iface 64 (.ptr id 0), .iface 69 (.ptr S.H.length 0)] ⟨S.H ++ [⟨64, [.nilp]⟩], S.T⟩ = some (.ret (.bool true), ⟨S.H ++ [⟨64, [.ptr id 0]⟩], S.T⟩) := by
    rw [ev_As]
    have h2 : (S.H ++ [(⟨64, [.nilp]⟩ : HBox)])[S.H.length]? = some ⟨64, [.nilp]⟩ := by simp
    simp only [asX, h2]
    simp
  have htr := tr55
  have hz55 : zeroQ Tryz.prog 64 = some [.nilp] := by kernel_rfl
  have hf := fin_low (S := S) [⟨64, [.ptr id 0]⟩] (.int .i64 a) rfl rfl rfl
  have hg : (⟨S.H ++ [⟨64, [.ptr id 0]⟩], S.T⟩ : St).H[S.H.length]? = some ⟨64, [.ptr id 0]⟩ := by simp
  have hg2 : (⟨S.H ++ [⟨64, [.ptr id 0]⟩], S.T⟩ : St).H[id]? = some ⟨66, [.int .i64 c, .int .i64 a, e]⟩ := by simp only; rw [List.getElem?_append_left hid]; exact h
  generalize (⟨S.H ++ [⟨64, [.ptr id 0]⟩], S.T⟩ : St) = S2 at *
  rw [show n + 2 = (n + 1) + 1 from rfl, ev_enter (n := n + 1) (show E.ok 14 = true from rfl) Tryz.func14 (fn := Tryz.f14) rfl (Nat.le_of_ble_eq_true rfl) (by decide +kernel)]
  simp (disch := first | (simp only [List.length_append, List.length_cons, List.length_nil]; omega) | (simp; done) | assumption) [AV.cells?, AV.isCell, Tryz.f14, esc13, hz55, tn56, hA, hg, hg2, hf, tk55, tc55, ta55, tr55, tq58_1, k3, c3, a3, AV.sealed, AV.sealedL, ofC]
theorem ev_Wrap (n : Nat) (S : St) (id : Nat) (c a : Int) : ev Tryz.prog E (n + 1) 12 [.int .i64 c, .int .i64 a, .iface 64 (.ptr id 0)] S = some (.ret (.iface 64 (.ptr S.H.length 0)), ⟨S.H ++ [⟨66, [.int .i64 c, .int .i64 a, .iface 64 (.ptr id 0)]⟩], S.T⟩) := by
  have htf := tf27
  have hbd : evBuild Tryz.prog 66 [(0, .int .i64 c), (1, .int .i64 a), (2, .iface 64 (.ptr id 0))] = some (.agg [.int .i64 c, .int .i64 a, .iface 64 (.ptr id 0)]) := by
    simp [evBuild, tp58, tz58, fillA, tl58_0, tl58_1, tl58_2, AV.cells?, wrc]
  have hf : finish S (.iface 64 (.ptr S.H.length 0)) ⟨S.H ++ [⟨66, [.int .i64 c, .int .i64 a, .iface 64 (.ptr id 0)]⟩], S.T⟩ = some (.iface 64 (.ptr S.H.length 0), ⟨S.H ++ [⟨66, [.int .i64 c, .int .i64 a, .iface 64 (.ptr id 0)]⟩], S.T⟩) := by
    unfold finish
    simp [AV.sealed, AV.strip, AV.low]
  rw [ev_enter (n := n) (show E.ok 12 = true from rfl) Tryz.func12 (fn := Tryz.f12) rfl (Nat.le_of_ble_eq_true rfl) (by decide +kernel)]
  simp (disch := first | (simp only [List.length_append, List.length_cons, List.length_nil]; omega) | (simp; done) | assumption) [AV.cells?, AV.isCell, -evBuild, Tryz.f12, esc16, hbd, tf27, tn55, hf, AV.sealed, AV.sealedL, ofC]
end Go.Proofs.YtmhidempoabehaaGreatDoor.PS
/- parse.Expr, evaluated whole. Condition: the world outside is closed. -/
namespace Go.Proofs.YtmhidempoabehaaGreatDoor.PS
set_option linter.unusedVariables false
set_option linter.unusedSimpArgs false
open Go AE EX PT NF LX
set_option maxRecDepth 100000

/-- a fault stands at id, so many in one another -/
def FaultAt (S : St) : Nat → Nat → Int → Int → Prop
  | 0, id, c, p => S.H[id]? = some ⟨66, [.int .i64 c, .int .i64 p, .nilif]⟩
  | d + 1, id, c, p => ∃ id2 c2 p2, S.H[id]? = some ⟨66, [.int .i64 c, .int .i64 p, .iface 64 (.ptr id2 0)]⟩ ∧ FaultAt S d id2 c2 p2
/-- a text's expression; or its first error's code and place, and whether it is in another one -/
noncomputable def exprR (s : List UInt8) : Except (Int × Int × Nat) X :=
  match lexAll s with
  | .error (c, p) => .error (c, p, 0)
  | .ok l => match takeR l with
    | .error (c, p) => .error (c, (hereT l p).p, 1)
    | .ok (x, q) => if (hereT l q).k = 5 then (if chkX x = 0 then .ok x else .error (chkX x, 0, 0)) else .error (16, (hereT l q).p, 0)

theorem fin_hi2 {S S' : St} {id : Nat} (h : S.H.length ≤ id) : finish S (.tup [zX.emb, .iface 64 (.ptr id 0)]) S' = some (.tup [zX.emb, .iface 64 (.ptr id 0)], S') := fin_hi h _ (sealed_emb _)
theorem fin_ok (S : St) (x : X) : finish S (.tup [x.emb, .nilif]) S = some (.tup [x.emb, .nilif], S) :=
  finish_same (by simp [AV.sealed, AV.sealedL, sealed_emb]) (by simp [AV.strip, AV.stripL, strip_emb]) (by simp [AV.low, AV.lowL, low_emb]) rfl rfl

set_option maxHeartbeats 8000000 in
theorem ev_Expr (n : Nat) (S0 : St) (s : List UInt8) (hs : s.length ≤ 1100000) (hw : lowB S0.H.length S0.T.length S0.H = true) (hn : 1200000 ≤ n) :
    (∀ x, exprR s = .ok x → ev Tryz.prog E (n + 1) 5 [.str s] S0 = some (.ret (.tup [x.emb, .nilif]), S0)) ∧
    (∀ c p d, exprR s = .error (c, p, d) → ∃ id S', S0.H.length ≤ id ∧ ev Tryz.prog E (n + 1) 5 [.str s] S0 = some (.ret (.tup [zX.emb, .iface 64 (.ptr id 0)]), S') ∧ FaultAt S' d id c p ∧ Grows S0 S') := by
  have ez : evBuild Tryz.prog 25 [] = some zX.emb := bXz
  have hz25 : zeroQ Tryz.prog 25 = some z6 := by kernel_rfl
  have zc := xcells zX
  have zl := xlen zX
  have zt := xtake zX
  have ze := xemb zX
  have hti := tf27
  have hsz : AV.sealedL z6 = true := rfl
  have l6 := z6_len
  obtain ⟨hA1, hA2⟩ := ev_All (n - 6) S0 s hs (by omega)
  rw [show n - 6 + 6 = n by omega] at hA1 hA2
  cases hL : lexAll s with
  | error e =>
    obtain ⟨c, p⟩ := e
    have hR : exprR s = .error (c, p, 0) := by unfold exprR; rw [hL]
    rw [hR]
    refine ⟨(fun x h => by cases h), fun c' p' d' h => ?_⟩
    cases h
    obtain ⟨id, S', h1, h2, h3, h4⟩ := hA2 c p hL
    refine ⟨id, S', h1, ?_, h3, h4⟩
    have hf := fin_hi2 (S := S0) (S' := S') h1
    generalize zX.cells = zcs at *
    generalize zX.emb = zem at *
    generalize z6 = z at *
    rw [ev_enter (n := n) (show E.ok 5 = true from rfl) Tryz.func5 (fn := Tryz.f5) rfl (Nat.le_of_ble_eq_true rfl) (by decide +kernel)]
    simp (disch := first | (simp only [List.length_append, List.length_cons, List.length_nil]; omega) | (simp; done) | assumption) [AV.cells?, AV.isCell, -AV.cells?, cq_int, cq_nilif, cq_iface, -evBuild, Tryz.f5, E_esc, hz25, h2, ez, zc, zl, zt, ze, l6, hf, c24, a24, k24, i24, ofC]
  | ok l =>
    have hl := hA1 l hL
    obtain ⟨_, more, e1, e2, e3, e4⟩ := lexAll_shape hL
    have hlen : l.length ≤ 4097 := by rw [e1]; simp; have := (lexAll_shape hL).1; omega
    have hT := ev_Take (n - 5) S0 l (by omega) hw (by omega)
    rw [show n - 5 + 5 = n by omega] at hT
    unfold takeAns at hT
    cases hR2 : takeR l with
    | error e =>
      obtain ⟨c, p⟩ := e
      rw [hR2] at hT
      have hR : exprR s = .error (c, (hereT l p).p, 1) := by unfold exprR; rw [hL]; simp only [hR2]
      rw [hR]
      refine ⟨(fun x h => by cases h), fun c' p' d' h => ?_⟩
      cases h
      simp only at hT
      generalize hp : (hereT l p).p = pl at *
      have g : (TSt S0 l zX 0 (.iface 64 (.ptr (S0.H.length + 4) 0)) p [⟨66, [.int .i64 c, .int .i64 pl, .nilif]⟩]).H[S0.H.length + 4]? = some ⟨66, [.int .i64 c, .int .i64 pl, .nilif]⟩ := by
        simp [TSt, TB]
      have hlen2 : (TSt S0 l zX 0 (.iface 64 (.ptr (S0.H.length + 4) 0)) p [⟨66, [.int .i64 c, .int .i64 pl, .nilif]⟩]).H.length = S0.H.length + 5 := by
        simp [TSt, TB]
      generalize hS1 : TSt S0 l zX 0 (.iface 64 (.ptr (S0.H.length + 4) 0)) p [⟨66, [.int .i64 c, .int .i64 pl, .nilif]⟩] = S1 at *
      have hC := ev_Code (n - 2) S1 _ _ _ _ g
      have hP := ev_Place (n - 2) S1 _ _ _ _ g
      rw [show n - 2 + 2 = n by omega] at hC hP
      have hW := ev_Wrap (n - 1) S1 (S0.H.length + 4) c pl
      rw [show n - 1 + 1 = n by omega, hlen2] at hW
      refine ⟨S0.H.length + 5, ⟨S1.H ++ [⟨66, [.int .i64 c, .int .i64 pl, .iface 64 (.ptr (S0.H.length + 4) 0)]⟩], S1.T⟩, by omega, ?_, ⟨S0.H.length + 4, c, pl, ?_, ?_⟩, ?_⟩
      · have hf := fin_hi2 (S := S0) (S' := ⟨S1.H ++ [⟨66, [.int .i64 c, .int .i64 pl, .iface 64 (.ptr (S0.H.length + 4) 0)]⟩], S1.T⟩) (show S0.H.length ≤ S0.H.length + 5 by omega)
        generalize (⟨S1.H ++ [⟨66, [.int .i64 c, .int .i64 pl, .iface 64 (.ptr (S0.H.length + 4) 0)]⟩], S1.T⟩ : St) = S2 at *
        generalize S0.H.length + 4 = i4 at *
        generalize S0.H.length + 5 = i5 at *
        clear hL hR hR2 hA1 hA2 hS1
        generalize tkL l = es at *
        generalize zX.cells = zcs at *
        generalize zX.emb = zem at *
        generalize z6 = z at *
        rw [ev_enter (n := n) (show E.ok 5 = true from rfl) Tryz.func5 (fn := Tryz.f5) rfl (Nat.le_of_ble_eq_true rfl) (by decide +kernel)]
        simp (disch := first | (simp only [List.length_append, List.length_cons, List.length_nil]; omega) | (simp; done) | assumption) [AV.cells?, AV.isCell, -AV.cells?, cq_int, cq_nilif, cq_iface, -evBuild, Tryz.f5, E_esc, hz25, hl, hT, hC, hP, hW, ez, zc, zl, zt, ze, l6, hf, c24, a24, k24, i24, ofC]
      · simp [hlen2]
      · show (S1.H ++ _)[S0.H.length + 4]? = _
        rw [List.getElem?_append_left (by omega)]
        exact g
      · rw [← hS1]
        exact Grows.push ⟨by simp [TSt], by simp [TSt]⟩ _
    | ok r =>
      obtain ⟨x, q⟩ := r
      rw [hR2] at hT
      simp only at hT
      obtain ⟨hq, hb, _⟩ := take_bound hL hR2
      have hx : l[q]? = some l[q] := List.getElem?_eq_getElem hq
      have hh : hereT l q = l[q] := by simp [hereT, hx]
      have hia := ia l .non q _ hx
      have hE : exprR s = (if (hereT l q).k = 5 then (if chkX x = 0 then .ok x else .error (chkX x, 0, 0)) else .error (16, (hereT l q).p, 0)) := by
        unfold exprR; rw [hL]; simp only [hR2]
      rw [hh] at hE
      have xc := xcells x
      have xl := xlen x
      have xt := xtake x
      have xe := xemb x
      have xd : List.drop 6 x.cells = [] := List.drop_eq_nil_of_le (by rw [xl]; omega)
      generalize l[q] = t at *
      obtain ⟨k, ts, tn, tp⟩ := t
      simp only [Tk.cells] at hia hE
      by_cases h5 : k = 5
      · rw [if_pos h5] at hE
        subst h5
        have hK := ev_aCheckC (n - 1) x (by omega) (by omega) S0
        rw [show n - 1 + 1 = n by omega] at hK
        by_cases hc : chkX x = 0
        · rw [if_pos hc] at hE
          rw [hE]
          refine ⟨fun y h => ?_, fun c p d h => by cases h⟩
          cases h
          rw [hc] at hK
          have hf := fin_ok S0 x
          clear hL hE hR2 hA1 hA2 hx hh
          generalize tkL l = es at *
          generalize x.cells = xcs at *
          generalize x.emb = xem at *
          generalize z6 = z at *
          rw [ev_enter (n := n) (show E.ok 5 = true from rfl) Tryz.func5 (fn := Tryz.f5) rfl (Nat.le_of_ble_eq_true rfl) (by decide +kernel)]
          simp (disch := first | (simp only [List.length_append, List.length_cons, List.length_nil]; omega) | (simp; done) | assumption) [AV.cells?, AV.isCell, -AV.cells?, cq_int, cq_nilif, cq_iface, -evBuild, -evIndexAddr, Tryz.f5, E_esc, hz25, hl, hT, hia, hK, ez, xc, xl, xt, xe, xd, l6, hf, c24, a24, k24, i24, tq46_0, tc46, ta46, tk46, bq3, k3, c3, a3, tb30, ofC]
        · rw [if_neg hc] at hE
          rw [hE]
          refine ⟨(fun y h => by cases h), fun c p d h => ?_⟩
          cases h
          generalize chkX x = cc at *
          have hN := ev_New (n - 1) cc 0 S0
          rw [show n - 1 + 1 = n by omega] at hN
          have hf := fin_hi2 (S := S0) (S' := ⟨S0.H ++ [⟨66, [.int .i64 cc, .int .i64 0, .nilif]⟩], S0.T⟩) (Nat.le_refl _)
          refine ⟨S0.H.length, ⟨S0.H ++ [⟨66, [.int .i64 cc, .int .i64 0, .nilif]⟩], S0.T⟩, Nat.le_refl _, ?_, by simp [FaultAt], ⟨by simp, by simp⟩⟩
          generalize (⟨S0.H ++ [⟨66, [.int .i64 cc, .int .i64 0, .nilif]⟩], S0.T⟩ : St) = S2 at *
          clear hL hE hR2 hA1 hA2 hx hh
          generalize tkL l = es at *
          generalize x.cells = xcs at *
          generalize x.emb = xem at *
          generalize zX.cells = zcs at *
          generalize zX.emb = zem at *
          generalize z6 = z at *
          rw [ev_enter (n := n) (show E.ok 5 = true from rfl) Tryz.func5 (fn := Tryz.f5) rfl (Nat.le_of_ble_eq_true rfl) (by decide +kernel)]
          simp (disch := first | (simp only [List.length_append, List.length_cons, List.length_nil]; omega) | (simp; done) | assumption) [AV.cells?, AV.isCell, -AV.cells?, cq_int, cq_nilif, cq_iface, -evBuild, -evIndexAddr, Tryz.f5, E_esc, hz25, hl, hT, hia, hK, hc, hN, ez, zc, zl, zt, ze, xc, xl, xt, xe, xd, l6, hf, c24, a24, k24, i24, tq46_0, tc46, ta46, tk46, bq3, k3, c3, a3, tb30, ofC]
      · rw [if_neg h5] at hE
        rw [hE]
        refine ⟨(fun y h => by cases h), fun c p d h => ?_⟩
        cases h
        have hN := ev_New (n - 1) 16 tp S0
        rw [show n - 1 + 1 = n by omega] at hN
        have hf := fin_hi2 (S := S0) (S' := ⟨S0.H ++ [⟨66, [.int .i64 16, .int .i64 tp, .nilif]⟩], S0.T⟩) (Nat.le_refl _)
        refine ⟨S0.H.length, ⟨S0.H ++ [⟨66, [.int .i64 16, .int .i64 tp, .nilif]⟩], S0.T⟩, Nat.le_refl _, ?_, by simp [FaultAt], ⟨by simp, by simp⟩⟩
        generalize (⟨S0.H ++ [⟨66, [.int .i64 16, .int .i64 tp, .nilif]⟩], S0.T⟩ : St) = S2 at *
        clear hL hE hR2 hA1 hA2 hx hh
        generalize tkL l = es at *
        generalize x.cells = xcs at *
        generalize x.emb = xem at *
        generalize zX.cells = zcs at *
        generalize zX.emb = zem at *
        generalize z6 = z at *
        rw [ev_enter (n := n) (show E.ok 5 = true from rfl) Tryz.func5 (fn := Tryz.f5) rfl (Nat.le_of_ble_eq_true rfl) (by decide +kernel)]
        simp (disch := first | (simp only [List.length_append, List.length_cons, List.length_nil]; omega) | (simp; done) | assumption) [AV.cells?, AV.isCell, -AV.cells?, cq_int, cq_nilif, cq_iface, -evBuild, -evIndexAddr, Tryz.f5, E_esc, hz25, hl, hT, hia, h5, hN, ez, zc, zl, zt, ze, xc, xl, xt, xe, xd, l6, hf, c24, a24, k24, i24, tq46_0, tq46_3, tc46, ta46, tk46, bq3, k3, c3, a3, ofC]
end Go.Proofs.YtmhidempoabehaaGreatDoor.PS
/- What a text that has an expression is; alike, of itself. Condition: the world outside is closed. -/
namespace Go.Proofs.YtmhidempoabehaaGreatDoor.PS
set_option linter.unusedVariables false
set_option linter.unusedSimpArgs false
open Go AE EX PT NF LX
set_option maxRecDepth 100000

mutual
theorem same_refl : ∀ x : X, x.same x = true
  | .mk k nm n lo hi tk ks => by
    have := sameL_refl ks
    simp [X.same, this]
theorem sameL_refl : ∀ l : List X, sameL l l = true
  | [] => rfl
  | x :: l => by
    have h1 := same_refl x
    have h2 := sameL_refl l
    simp [sameL, h1, h2]
end
/-- what a text that has an expression is -/
theorem expr_parts {s : List UInt8} {x : X} (h : exprR s = .ok x) : ∃ l q, lexAll s = .ok l ∧ takeR l = .ok (x, q) ∧ (hereT l q).k = 5 ∧ chkX x = 0 ∧ q < l.length ∧ x.bulk ≤ 62000 := by
  unfold exprR at h
  cases hL : lexAll s with
  | error e => obtain ⟨c, p⟩ := e; rw [hL] at h; cases h
  | ok l =>
    rw [hL] at h
    simp only at h
    cases hT : takeR l with
    | error e => obtain ⟨c, p⟩ := e; rw [hT] at h; cases h
    | ok r =>
      obtain ⟨y, q⟩ := r
      rw [hT] at h
      simp only at h
      split at h
      · rename_i h5
        split at h
        · rename_i h0
          cases h
          obtain ⟨b1, b2, _⟩ := take_bound hL hT
          exact ⟨l, q, rfl, hT, h5, h0, b1, b2⟩
        · cases h
      · cases h
end Go.Proofs.YtmhidempoabehaaGreatDoor.PS
/- An expression's text, lexed and parsed, is that expression. No condition. -/
namespace Go.Proofs.YtmhidempoabehaaGreatDoor.LX
set_option linter.unusedVariables false
set_option linter.unusedSimpArgs false
open Go AE EX PT NF PS
set_option maxRecDepth 100000

theorem depL_mem {x : X} : ∀ {l : List X}, x ∈ l → x.dep ≤ depL l
  | y :: l, h => by
    simp only [depL]
    rcases List.mem_cons.1 h with rfl | h
    · split <;> omega
    · have := depL_mem h
      split <;> omega
theorem one_sign {h : Nat → Tk} {F k p : Nat} {s : List UInt8} {rest : List WD} (ha : At h p ((4, s, 0) :: rest)) : oneF h F (k + 1) p = signedP h F (oneF h F k) (anyP h F (oneF h F k)) p := by
  have hk := ha.1.1
  simp only at hk
  simp [oneF, hk]
theorem one_name {h : Nat → Tk} {F k p : Nat} {s : List UInt8} {rest : List WD} (ha : At h p ((1, s, 0) :: rest)) : oneF h F (k + 1) p = namedP h (oneF h F k) (anyP h F (oneF h F k)) p := by
  have hk := ha.1.1
  simp only at hk
  simp [oneF, hk]
theorem same_leaf {k : Int} {nm : List UInt8} {n lo hi n' hi' : Int} {tk : Bool} {nm' : List UInt8} (h1 : nm' = nm) (h2 : n' = n) (h3 : lo = 0) (h4 : hi' = hi) : (leafX k nm' n' hi').same (.mk k nm n lo hi tk []) = true := by
  subst h1 h2 h3 h4
  simp [leafX, X.same, sameL]
set_option maxHeartbeats 4000000 in
theorem leaf_at {k : Int} {nm : List UInt8} {n lo hi : Int} {tk : Bool} (hk : isLeaf k) (hf : Fits k nm n lo hi) {h : Nat → Tk} {F d p : Nat} {rest : List WD} (ha : At h p (leafW k nm n hi ++ rest)) :
    ∃ y, y.same (.mk k nm n lo hi tk []) = true ∧ oneF h F (d + 1) p = .ok (y, p + (leafW k nm n hi).length) := by
  rcases hk with rfl | rfl | rfl | rfl | rfl | rfl | rfl | rfl
  · obtain ⟨⟨g1, g2, g3⟩, _⟩ := ha
    exact ⟨leafX 1 [] (h p).n 0, same_leaf (hf.none (by omega)).symm g3 (hf.zero (by omega)).1 (hf.zero (by omega)).2.symm, by rw [oneF, if_pos g1]; rfl⟩
  · have h0 := hf.bool rfl
    have ha' : At h p ((1, if n = 0 then [102, 97, 108, 115, 101] else [116, 114, 117, 101], 0) :: rest) := ha
    refine ⟨leafX 2 [] n 0, same_leaf (hf.none (by omega)).symm rfl (hf.zero (by omega)).1 (hf.zero (by omega)).2.symm, ?_⟩
    rw [one_name ha']
    simp only [namedP, is_at ha']
    rcases h0 with rfl | rfl <;> rfl
  · obtain ⟨⟨g1, g2, g3⟩, _⟩ := ha
    have g1' : (h p).k = 3 := g1
    exact ⟨leafX 3 (h p).s 0 0, same_leaf g2 (hf.num (by omega) (by omega)).symm (hf.zero (by omega)).1 (hf.zero (by omega)).2.symm, by rw [oneF, if_neg (by rw [g1']; decide), if_pos g1']; rfl⟩
  · have ha' : At h p ((1, [115], 0) :: (4, [46], 0) :: (1, nm, 0) :: rest) := ha
    obtain ⟨t, t1, t2, _⟩ := take_at ha'.tail.tail
    refine ⟨leafX 5 t.s 0 0, same_leaf t2 (hf.num (by omega) (by omega)).symm (hf.zero (by omega)).1 (hf.zero (by omega)).2.symm, ?_⟩
    rw [one_name ha']
    simp only [namedP, is_at ha']
    show attrP h 5 (p + 1) = _
    simp only [attrP, need_at (s := [46]) (by decide) ha'.tail, th_ok, t1]
    rfl
  · have ha' : At h p ((1, [111], 0) :: (4, [46], 0) :: (1, nm, 0) :: rest) := ha
    obtain ⟨t, t1, t2, _⟩ := take_at ha'.tail.tail
    refine ⟨leafX 6 t.s 0 0, same_leaf t2 (hf.num (by omega) (by omega)).symm (hf.zero (by omega)).1 (hf.zero (by omega)).2.symm, ?_⟩
    rw [one_name ha']
    simp only [namedP, is_at ha']
    show attrP h 6 (p + 1) = _
    simp only [attrP, need_at (s := [46]) (by decide) ha'.tail, th_ok, t1]
    rfl
  · have ha' : At h p ((1, [110, 111, 119], 0) :: rest) := ha
    refine ⟨leafX 7 [] 0 0, same_leaf (hf.none (by omega)).symm (hf.num (by omega) (by omega)).symm (hf.zero (by omega)).1 (hf.zero (by omega)).2.symm, ?_⟩
    rw [one_name ha']
    simp only [namedP, is_at ha']
    rfl
  · have ha' : At h p ((1, [116, 105, 109, 101, 115], 0) :: (4, [40], 0) :: (1, nm, 0) :: (4, [44], 0) :: (2, dec hi, hi) :: (4, [41], 0) :: rest) := ha
    obtain ⟨t, t1, t2, _⟩ := take_at ha'.tail.tail
    obtain ⟨u, u1, _, u2⟩ := take_at ha'.tail.tail.tail.tail
    refine ⟨leafX 13 t.s 0 u.n, same_leaf t2 (hf.num (by omega) (by omega)).symm (hf.times rfl).1 u2, ?_⟩
    rw [one_name ha']
    simp only [namedP, is_at ha']
    show timesP h (p + 1) = _
    simp only [timesP, need_at (s := [40]) (by decide) ha'.tail, th_ok, t1, need_at (s := [44]) (by decide) ha'.tail.tail.tail, u1, need_at (s := [41]) (by decide) ha'.tail.tail.tail.tail.tail]
    rfl
  · have ha' : At h p ((1, [97, 99, 116], 0) :: (4, [40], 0) :: (1, nm, 0) :: (4, [41], 0) :: rest) := ha
    obtain ⟨t, t1, t2, _⟩ := take_at ha'.tail.tail
    refine ⟨leafX 21 t.s 0 0, same_leaf t2 (hf.num (by omega) (by omega)).symm (hf.zero (by omega)).1 (hf.zero (by omega)).2.symm, ?_⟩
    rw [one_name ha']
    simp only [namedP, is_at ha']
    show actP h (p + 1) = _
    simp only [actP, need_at (s := [40]) (by decide) ha'.tail, th_ok, t1, need_at (s := [41]) (by decide) ha'.tail.tail.tail]
    rfl
theorem toks_leaf {k : Int} (hk : isLeaf k) (nm : List UInt8) (n lo hi : Int) (tk : Bool) : (X.mk k nm n lo hi tk []).toks = leafW k nm n hi := by
  rcases hk with rfl | rfl | rfl | rfl | rfl | rfl | rfl | rfl <;> rfl
set_option maxHeartbeats 4000000 in
theorem one_at : ∀ (m : Nat) (x : X), x.size ≤ m → MayAll x → ∀ (h : Nat → Tk) (F d p : Nat) (rest : List WD), x.dep ≤ d → x.toks.length < F → At h p (x.toks ++ rest) →
    ∃ y, y.same x = true ∧ oneF h F d p = .ok (y, p + x.toks.length)
  | 0, x, hm, _ => by have := size_pos x; omega
  | m + 1, .mk k nm n lo hi tk kids, hm, hmay => by
    intro h F d p rest hd hF ha
    obtain ⟨hf, hs⟩ := may_shape hmay
    simp only [X.size] at hm
    have hd1 : 1 ≤ (X.mk k nm n lo hi tk kids).dep := by simp only [X.dep]; split <;> omega
    obtain ⟨d, rfl⟩ : ∃ e, d = e + 1 := ⟨d - 1, by omega⟩
    have hdk : k ≠ 4 → ∀ x ∈ kids, x.dep ≤ d := fun h4 x hx => by
      have := depL_mem hx
      have e : (k == 4) = false := by simp [h4]
      simp only [X.dep, e, Bool.false_eq_true, if_false] at hd
      omega
    have hsz : ∀ x ∈ kids, x.size ≤ m := fun x hx => by have := sizeL_mem hx; omega
    rcases hs with ⟨rfl, hset⟩ | ⟨hk, rfl⟩ | ⟨hk, a, rfl, ham⟩ | ⟨hk, a, b, rfl, ham, hbm⟩ | ⟨rfl, a, b, rfl, ham, hbm⟩
    · have ht : (X.mk 4 nm n lo hi tk kids).toks = (4, [123], 0) :: joinW (toksL kids) ++ [(4, [125], 0)] := rfl
      rw [ht] at ha hF ⊢
      have ha' : At h p ((4, [123], 0) :: (joinW (toksL kids) ++ (4, [125], 0) :: rest)) := by simpa using ha
      have hS : oneF h F (d + 1) p = setP h F (p + 1) := by
        rw [one_sign ha']
        simp only [signedP, is_at ha']
        rfl
      rw [hS]
      have hnm := hf.none (by omega)
      have hn := hf.num (by omega) (by omega)
      have hlh := hf.zero (by omega)
      obtain ⟨rfl, rfl⟩ := hlh
      subst hnm hn
      cases kids with
      | nil =>
        have i1 : isB h (p + 1) [125] = true := by rw [is_at (w := (4, [125], 0)) (rest := rest) ha'.tail]; decide
        exact ⟨leafX 4 [] 0 0, by simp [leafX, X.same, sameL], by simp only [setP, i1, if_true]; rfl⟩
      | cons y ys =>
        obtain ⟨nm', tk', hy, hp', _⟩ := hset.2 0 (by simp)
        have a1 := ha'.tail
        have i1 : isB h (p + 1) [125] = false := by
          simp at hy
          subst hy
          have a2 : At h (p + 1) ((3, nm', 0) :: (joinTailW (toksL ys) ++ (4, [125], 0) :: rest)) := by simpa [toksL, joinW, X.toks, leafW] using a1
          rw [is_at a2]; rfl
        simp only [List.length_append, List.length_cons, List.length_nil] at hF
        have hl8 := toks_len (y :: ys)
        obtain ⟨zs, z1, z2, z3⟩ := set_at [] (y :: ys) F (p + 1) rest (by simpa using hset) (by simp) (by omega) (by simp) a1
        refine ⟨setX zs, ?_, ?_⟩
        · have hl : (zs.length == (y :: ys).length) = true := by simp [z2]
          simp only [setX, X.same, z1, hl]
          simp
        · simp only [setP, i1, Bool.false_eq_true, if_false, z3, List.nil_append]
          simp; omega
    · rw [toks_leaf hk] at ha ⊢
      exact leaf_at hk hf ha
    · have hj : joinW (toksL [a]) = a.toks := by simp [toksL, joinW, joinTailW]
      have hda := hdk (by unfold k1 at hk; omega) a (by simp)
      have hsa := hsz a (by simp)
      have hnm := hf.none (by unfold k1 at hk; omega)
      have hn := hf.num (by unfold k1 at hk; omega) (by unfold k1 at hk; omega)
      have sm : ∀ (k lo hi : Int) (y : X), y.same a = true → (X.mk k [] 0 lo hi true [y]).same (.mk k [] 0 lo hi tk [a]) = true := fun k lo hi y hy => by simp [X.same, sameL, hy]
      subst hnm hn
      have arg : ∀ (q : Nat), a.toks.length < F → At h q ((4, [40], 0) :: a.toks ++ (4, [41], 0) :: rest) → ∃ y, y.same a = true ∧ argP h (anyP h F (oneF h F d)) q = .ok (y, q + 1 + a.toks.length + 1) := fun q hFa hq => by
        obtain ⟨y, y1, y2⟩ := one_at m a hsa ham h F d (q + 1) ((4, [41], 0) :: rest) hda hFa hq.tail
        exact ⟨y, y1, arg_at hq (any_cl y2 (by omega) (cl_at (At_app.1 hq.tail).2 (by decide)))⟩
      rcases hk with rfl | rfl | rfl | rfl | rfl | rfl
      · have ht : (X.mk 11 [] 0 lo hi tk [a]).toks = (4, [45], 0) :: joinW (toksL [a]) := rfl
        obtain ⟨rfl, rfl⟩ := hf.zero (by omega)
        rw [ht, hj] at ha hF ⊢
        simp only [List.length_cons] at hF
        obtain ⟨y, y1, y2⟩ := one_at m a hsa ham h F d (p + 1) rest hda (by omega) ha.tail
        refine ⟨oneX 11 y, sm 11 0 0 y y1, ?_⟩
        have ha' : At h p ((4, [45], 0) :: (a.toks ++ rest)) := ha
        rw [one_sign ha']
        simp only [signedP, is_at ha']
        show PR.th (oneF h F d (p + 1)) _ = _
        rw [y2]
        simp [th_ok]; omega
      · have ht : (X.mk 12 [] 0 lo hi tk [a]).toks = (1, [108, 101, 110], 0) :: (4, [40], 0) :: joinW (toksL [a]) ++ [(4, [41], 0)] := rfl
        obtain ⟨rfl, rfl⟩ := hf.zero (by omega)
        rw [ht, hj] at ha hF ⊢
        simp only [List.length_append, List.length_cons] at hF
        have ha' : At h p ((1, [108, 101, 110], 0) :: ((4, [40], 0) :: a.toks ++ (4, [41], 0) :: rest)) := by simpa using ha
        obtain ⟨y, y1, y2⟩ := arg (p + 1) (by omega) ha'.tail
        refine ⟨oneX 12 y, sm 12 0 0 y y1, ?_⟩
        rw [one_name ha']
        simp only [namedP, is_at ha']
        show PR.th (argP h _ (p + 1)) _ = _
        rw [y2]
        simp [th_ok]; omega
      · have ht : (X.mk 18 [] 0 lo hi tk [a]).toks = (1, [110, 111, 116], 0) :: joinW (toksL [a]) := rfl
        obtain ⟨rfl, rfl⟩ := hf.zero (by omega)
        rw [ht, hj] at ha hF ⊢
        simp only [List.length_cons] at hF
        obtain ⟨y, y1, y2⟩ := one_at m a hsa ham h F d (p + 1) rest hda (by omega) ha.tail
        refine ⟨oneX 18 y, sm 18 0 0 y y1, ?_⟩
        have ha' : At h p ((1, [110, 111, 116], 0) :: (a.toks ++ rest)) := ha
        rw [one_name ha']
        simp only [namedP, is_at ha']
        show PR.th (oneF h F d (p + 1)) _ = _
        rw [y2]
        simp [th_ok]; omega
      · have ht : (X.mk 22 [] 0 lo hi tk [a]).toks = (1, [111, 110, 99, 101], 0) :: (spanW lo hi ++ (4, [40], 0) :: joinW (toksL [a]) ++ [(4, [41], 0)]) := by simp [X.toks, frontW, wordT]
        have hsp := hf.span (by omega)
        have hsl : (spanW lo hi).length = 5 := rfl
        rw [ht, hj] at ha hF ⊢
        simp only [List.length_append, List.length_cons, hsl] at hF
        have ha' : At h p ((1, [111, 110, 99, 101], 0) :: (spanW lo hi ++ ((4, [40], 0) :: a.toks ++ (4, [41], 0) :: rest))) := by simpa using ha
        have hs5 := span_at hsp.2 ha'.tail
        have a5 := (At_app.1 ha'.tail).2
        obtain ⟨y, y1, y2⟩ := arg (p + 1 + 5) (by omega) a5
        refine ⟨.mk 22 [] 0 lo hi true [y], sm 22 lo hi y y1, ?_⟩
        rw [one_name ha']
        simp only [namedP, is_at ha']
        show timedP h _ p = _
        simp only [timedP, is_at ha']
        show lookP h 22 _ (p + 1) = _
        simp only [lookP, hs5, th_ok, y2]
        simp [hsl]; omega
      · have ht : (X.mk 23 [] 0 lo hi tk [a]).toks = (1, [104, 105, 115, 116], 0) :: (spanW lo hi ++ (4, [40], 0) :: joinW (toksL [a]) ++ [(4, [41], 0)]) := by simp [X.toks, frontW, wordT]
        have hsp := hf.span (by omega)
        have hsl : (spanW lo hi).length = 5 := rfl
        rw [ht, hj] at ha hF ⊢
        simp only [List.length_append, List.length_cons, hsl] at hF
        have ha' : At h p ((1, [104, 105, 115, 116], 0) :: (spanW lo hi ++ ((4, [40], 0) :: a.toks ++ (4, [41], 0) :: rest))) := by simpa using ha
        have hs5 := span_at hsp.2 ha'.tail
        have a5 := (At_app.1 ha'.tail).2
        obtain ⟨y, y1, y2⟩ := arg (p + 1 + 5) (by omega) a5
        refine ⟨.mk 23 [] 0 lo hi true [y], sm 23 lo hi y y1, ?_⟩
        rw [one_name ha']
        simp only [namedP, is_at ha']
        show timedP h _ p = _
        simp only [timedP, is_at ha']
        show lookP h 23 _ (p + 1) = _
        simp only [lookP, hs5, th_ok, y2]
        simp [hsl]; omega
      · have ht : (X.mk 25 [] 0 lo hi tk [a]).toks = (1, [112, 114, 101, 118], 0) :: (4, [40], 0) :: joinW (toksL [a]) ++ [(4, [41], 0)] := rfl
        obtain ⟨rfl, rfl⟩ := hf.zero (by omega)
        rw [ht, hj] at ha hF ⊢
        simp only [List.length_append, List.length_cons] at hF
        have ha' : At h p ((1, [112, 114, 101, 118], 0) :: ((4, [40], 0) :: a.toks ++ (4, [41], 0) :: rest)) := by simpa using ha
        obtain ⟨y, y1, y2⟩ := arg (p + 1) (by omega) ha'.tail
        refine ⟨oneX 25 y, sm 25 0 0 y y1, ?_⟩
        rw [one_name ha']
        simp only [namedP, is_at ha']
        show PR.th (argP h _ (p + 1)) _ = _
        rw [y2]
        simp [th_ok]; omega
    · have ht : (X.mk k nm n lo hi tk [a, b]).toks = (4, [40], 0) :: (a.toks ++ signW k :: (b.toks ++ [(4, [41], 0)])) := by
        rcases hk with rfl | rfl | rfl | rfl | rfl | rfl | rfl | rfl | rfl <;> simp [X.toks, toksL, binW]
      have hnm := hf.none (by unfold kb at hk; omega)
      have hn := hf.num (by unfold kb at hk; omega) (by unfold kb at hk; omega)
      obtain ⟨rfl, rfl⟩ := hf.zero (by unfold kb at hk; omega)
      subst hnm hn
      rw [ht] at ha hF ⊢
      simp only [List.length_append, List.length_cons, List.length_nil] at hF
      have ha' : At h p ((4, [40], 0) :: ((a.toks ++ signW k :: b.toks) ++ (4, [41], 0) :: rest)) := by simpa using ha
      have a1 : At h (p + 1) (a.toks ++ (signW k :: (b.toks ++ (4, [41], 0) :: rest))) := by simpa using ha'.tail
      have a2 := (At_app.1 a1).2
      obtain ⟨y, y1, y2⟩ := one_at m a (hsz a (by simp)) ham h F d (p + 1) _ (hdk (by unfold kb at hk; omega) a (by simp)) (by omega) a1
      obtain ⟨z, z1, z2⟩ := one_at m b (hsz b (by simp)) hbm h F d (p + 1 + a.toks.length + 1) _ (hdk (by unfold kb at hk; omega) b (by simp)) (by omega) a2.tail
      have hcl := cl_at (At_app.1 a2.tail).2 (by decide)
      have hany := any_bin (F := F) hk y2 (by omega) (At_one.2 a2.1) z2 hcl
      refine ⟨bothX k y z, by simp [bothX, X.same, sameL, y1, z1], ?_⟩
      have hne : oneF h F (d + 1) p = argP h (anyP h F (oneF h F d)) p := by
        rw [one_sign ha']
        simp only [signedP, is_at ha']
        rfl
      have e1 : p + 1 + a.toks.length + 1 + b.toks.length = p + 1 + (a.toks ++ signW k :: b.toks).length := by
        simp only [List.length_append, List.length_cons]; omega
      have e2 : p + 1 + (a.toks ++ signW k :: b.toks).length + 1 = p + ((4, [40], 0) :: (a.toks ++ signW k :: (b.toks ++ [(4, [41], 0)])) : List WD).length := by
        simp only [List.length_append, List.length_cons, List.length_nil]; omega
      rw [e1] at hany
      rw [hne, arg_at (w := a.toks ++ signW k :: b.toks) ha' hany, e2]
    · have hnm := hf.none (by omega)
      have hn := hf.num (by omega) (by omega)
      have hsp := hf.span (by omega)
      have hsl : (spanW lo hi).length = 5 := rfl
      subst hnm hn
      have ht : (X.mk 24 [] 0 lo hi tk [a, b]).toks = (1, [115, 105, 110, 99, 101], 0) :: (spanW lo hi ++ (4, [40], 0) :: (a.toks ++ (4, [44], 0) :: (b.toks ++ [(4, [41], 0)]))) := by
        simp [X.toks, frontW, wordT, toksL, joinW, joinTailW]
      rw [ht] at ha hF ⊢
      simp only [List.length_append, List.length_cons, List.length_nil, hsl] at hF
      have ha' : At h p ((1, [115, 105, 110, 99, 101], 0) :: (spanW lo hi ++ ((4, [40], 0) :: (a.toks ++ (4, [44], 0) :: (b.toks ++ (4, [41], 0) :: rest))))) := by simpa using ha
      have hs5 := span_at hsp.2 ha'.tail
      have a5 := (At_app.1 ha'.tail).2
      rw [hsl] at a5
      have a6 := a5.tail
      have a7 := (At_app.1 a6).2
      obtain ⟨y, y1, y2⟩ := one_at m a (hsz a (by simp)) ham h F d (p + 1 + 5 + 1) _ (hdk (by omega) a (by simp)) (by omega) a6
      obtain ⟨z, z1, z2⟩ := one_at m b (hsz b (by simp)) hbm h F d (p + 1 + 5 + 1 + a.toks.length + 1) _ (hdk (by omega) b (by simp)) (by omega) a7.tail
      have hya := any_cl (F := F) y2 (by omega) (cl_at a7 (by decide))
      have a8 := (At_app.1 a7.tail).2
      have hzb := any_cl (F := F) z2 (by omega) (cl_at a8 (by decide))
      refine ⟨.mk 24 [] 0 lo hi true [y, z], by simp [X.same, sameL, y1, z1], ?_⟩
      rw [one_name ha']
      simp only [namedP, is_at ha']
      show timedP h _ p = _
      simp only [timedP, is_at ha']
      show sinceP h _ (p + 1) = _
      simp only [sinceP, hs5, th_ok, need_at (s := [40]) (by decide) a5, hya, need_at (s := [44]) (by decide) a7, hzb, need_at (s := [41]) (by decide) a8]
      simp [hsl]; omega
end Go.Proofs.YtmhidempoabehaaGreatDoor.LX
/- An expression that may be, printed and parsed, is the same. No condition. -/
namespace Go.Proofs.YtmhidempoabehaaGreatDoor.LX
set_option linter.unusedVariables false
set_option linter.unusedSimpArgs false
open Go AE EX PT NF PS
set_option maxRecDepth 100000

theorem may_of : ∀ (m : Nat) (x : X), x.size ≤ m → MayAll x → May x
  | 0, x, hm, _ => by have := size_pos x; omega
  | m + 1, .mk k nm n lo hi tk kids, hm, h => by
    simp only [X.size] at hm
    obtain ⟨hf, hs⟩ := may_shape h
    rcases hs with ⟨rfl, hset⟩ | ⟨hk, rfl⟩ | ⟨hk, a, rfl, ha⟩ | ⟨hk, a, b, rfl, ha, hb⟩ | ⟨rfl, a, b, rfl, ha, hb⟩
    · exact .set _ _ _ _ _ _ fun x hx => by
        obtain ⟨nm', tk', rfl, _⟩ := hset.kid x hx
        exact ⟨nm', 0, 0, 0, tk', rfl⟩
    · exact .leaf _ _ _ _ _ _ hk hf.bool
    · exact .one _ _ _ _ _ _ _ hk (may_of m a (by simp [sizeL] at hm; omega) ha)
    · exact .two _ _ _ _ _ _ _ _ (by unfold kb at hk; omega) (may_of m a (by simp [sizeL] at hm; omega) ha) (may_of m b (by simp [sizeL] at hm; omega) hb)
    · exact .two _ _ _ _ _ _ _ _ (by omega) (may_of m a (by simp [sizeL] at hm; omega) ha) (may_of m b (by simp [sizeL] at hm; omega) hb)

/-! ### what is alike may be alike -/
theorem same_mk {k k' n n' lo lo' hi hi' : Int} {nm nm' : List UInt8} {tk tk' : Bool} {ks ks' : List X} (h : (X.mk k nm n lo hi tk ks).same (.mk k' nm' n' lo' hi' tk' ks') = true) :
    k = k' ∧ nm = nm' ∧ n = n' ∧ lo = lo' ∧ hi = hi' ∧ ks.length = ks'.length ∧ sameL ks ks' = true := by
  simp only [X.same, Bool.and_eq_true, beq_iff_eq] at h
  obtain ⟨⟨⟨⟨⟨⟨h1, h2⟩, h3⟩, h4⟩, h5⟩, h6⟩, h7⟩ := h
  exact ⟨h1, h2, h3, h4, h5, h6, h7⟩
theorem sameL_get : ∀ {l l' : List X}, l.length = l'.length → sameL l l' = true → ∀ (i : Nat) (x : X), l[i]? = some x → ∃ y, l'[i]? = some y ∧ x.same y = true
  | [], _, _, _, i, x, h => by simp at h
  | a :: l, [], hl, _, _, _, _ => by simp at hl
  | a :: l, b :: m, hl, hs, i, x, h => by
    simp only [sameL, Bool.and_eq_true] at hs
    cases i with
    | zero => simp at h; subst h; exact ⟨b, by simp, hs.1⟩
    | succ i => simpa using sameL_get (by simpa using hl) hs.2 i x (by simpa using h)
theorem same_nm {x y : X} (h : x.same y = true) : x.nm = y.nm := by
  cases x; cases y; exact (same_mk h).2.1
mutual
theorem same_dep : ∀ x y : X, x.same y = true → x.dep = y.dep
  | .mk k nm n lo hi tk ks, .mk k' nm' n' lo' hi' tk' ks', h => by
    obtain ⟨rfl, rfl, rfl, rfl, rfl, hl, hs⟩ := same_mk h
    simp only [X.dep, sameL_dep ks ks' hl hs]
theorem sameL_dep : ∀ l m : List X, l.length = m.length → sameL l m = true → depL l = depL m
  | [], [], _, _ => rfl
  | [], _ :: _, h, _ => by simp at h
  | _ :: _, [], h, _ => by simp at h
  | x :: l, y :: m, hl, hs => by
    simp only [sameL, Bool.and_eq_true] at hs
    simp only [depL, same_dep x y hs.1, sameL_dep l m (by simpa using hl) hs.2]
end
mutual
theorem same_nodes : ∀ x y : X, x.same y = true → x.nodes.length = y.nodes.length
  | .mk k nm n lo hi tk ks, .mk k' nm' n' lo' hi' tk' ks', h => by
    obtain ⟨rfl, rfl, rfl, rfl, rfl, hl, hs⟩ := same_mk h
    have := sameL_nodes ks ks' hl hs
    simp only [X.nodes]
    split <;> simp [this]
theorem sameL_nodes : ∀ l m : List X, l.length = m.length → sameL l m = true → (nodesL l).length = (nodesL m).length
  | [], [], _, _ => rfl
  | [], _ :: _, h, _ => by simp at h
  | _ :: _, [], h, _ => by simp at h
  | x :: l, y :: m, hl, hs => by
    simp only [sameL, Bool.and_eq_true] at hs
    simp only [nodesL, List.length_append, same_nodes x y hs.1, sameL_nodes l m (by simpa using hl) hs.2]
end
theorem same_set {ks ks' : List X} (hl : ks.length = ks'.length) (hs : sameL ks ks' = true) (h : SetOK ks') : SetOK ks := by
  refine ⟨by have := h.1; omega, fun i hi => ?_⟩
  obtain ⟨nm, tk, h1, h2, h3⟩ := h.2 i (by omega)
  have hx : ks[i]? = some ks[i] := List.getElem?_eq_getElem hi
  obtain ⟨y, e1, e2⟩ := sameL_get hl hs i _ hx
  rw [h1] at e1
  cases e1
  unfold kidOK
  rw [hx]
  generalize ks[i] = x at *
  cases x with
  | mk k nm2 n lo hi' tk2 kk =>
    obtain ⟨rfl, rfl, rfl, rfl, rfl, g1, _⟩ := same_mk e2
    obtain rfl : kk = [] := List.eq_nil_of_length_eq_zero (by simpa using g1)
    refine ⟨_, tk2, rfl, h2, fun h0 z hz => ?_⟩
    obtain ⟨w, w1, w2⟩ := sameL_get hl hs _ z hz
    rw [same_nm w2]
    exact h3 h0 w w1
theorem same_may : ∀ (m : Nat) (x y : X), x.size ≤ m → x.same y = true → MayAll y → MayAll x
  | 0, x, _, hm, _, _ => by have := size_pos x; omega
  | m + 1, .mk k nm n lo hi tk ks, .mk k' nm' n' lo' hi' tk' ks', hm, h, hy => by
    obtain ⟨rfl, rfl, rfl, rfl, rfl, hl, hs⟩ := same_mk h
    simp only [X.size] at hm
    by_cases h4 : k = 4
    · obtain ⟨h1, h2⟩ := (mayAll_set h4).1 hy
      exact (mayAll_set h4).2 ⟨h1, same_set hl hs h2⟩
    · obtain ⟨h1, h2, h3, h5⟩ := (mayAll_more h4).1 hy
      refine (mayAll_more h4).2 ⟨h1, by rw [hl]; exact h2, h3, fun x hx => ?_⟩
      obtain ⟨i, hi, e⟩ := List.getElem_of_mem hx
      obtain ⟨y, e1, e2⟩ := sameL_get hl hs i x (by rw [List.getElem?_eq_getElem hi, e])
      exact same_may m x y (by have := sizeL_mem hx; omega) e2 (h5 y (List.mem_of_getElem? e1))
theorem same_ok {x y : X} (h : x.same y = true) (hy : OKx y) : OKx x :=
  ⟨by rw [same_dep x y h]; exact hy.1, by rw [same_nodes x y h]; exact hy.2.1, same_may _ x y (Nat.le_refl _) h hy.2.2⟩

theorem At_map {l : List Tk} {e : Tk} {ws : List WD} (h : l.map wof = ws) : At (hereT (l ++ [e])) 0 (ws ++ []) := by
  have key : ∀ (a b : List Tk), At (hereT (a ++ b ++ [e])) a.length (b.map wof) := by
    intro a b
    induction b generalizing a with
    | nil => trivial
    | cons t b ih =>
      have hh : hereT (a ++ (t :: b) ++ [e]) a.length = t := by simp [hereT]
      refine ⟨by rw [hh]; exact ⟨rfl, rfl, rfl⟩, ?_⟩
      have := ih (a ++ [t])
      simpa using this
  subst h
  have := key [] l
  simpa using this
/-- THE TEXT, LEXED AND PARSED. -/
theorem expr_back {x : X} (h : OKx x) (hf : x.num) (hl : x.txt.length ≤ 4096) : ∃ y, y.same x = true ∧ exprR x.txt = .ok y := by
  obtain ⟨l, l1, l2⟩ := Lx_expr x.size x (Nat.le_refl _) h.2.2 hf [] 0 Sep_nil
  have hlx : lexAll x.txt = .ok (l ++ [⟨5, [], 0, ((0 + x.txt.length : Nat) : Int)⟩]) := by
    rw [lexAll_U, if_neg (by omega)]
    rw [List.append_nil] at l2
    exact l2
  generalize ((0 + x.txt.length : Nat) : Int) = e at hlx
  have hlen : l.length = x.toks.length := by rw [← l1]; simp
  have hF : x.toks.length < (l ++ [(⟨5, [], 0, e⟩ : Tk)]).length + 1 := by simp; omega
  obtain ⟨y, y1, y2⟩ := one_at x.size x (Nat.le_refl _) h.2.2 (hereT (l ++ [⟨5, [], 0, e⟩])) ((l ++ [(⟨5, [], 0, e⟩ : Tk)]).length + 1) 32 0 [] (by have := h.1; omega) hF (At_map l1)
  have hend : (hereT (l ++ [⟨5, [], 0, e⟩]) (0 + x.toks.length)).k = 5 := by
    rw [Nat.zero_add, ← hlen]; simp [hereT]
  have hT : takeR (l ++ [⟨5, [], 0, e⟩]) = .ok (y, 0 + x.toks.length) := any_cl y2 (by omega) (cl_end hend)
  refine ⟨y, y1, ?_⟩
  unfold exprR
  rw [hlx]
  simp only [hT]
  rw [if_pos hend, if_pos ((chkX_ok y).2 (same_ok y1 h))]
end Go.Proofs.YtmhidempoabehaaGreatDoor.LX
/- Expressions as texts, evaluated (made by genpc.py). No condition. -/
namespace Go.Proofs.YtmhidempoabehaaGreatDoor.PT
set_option linter.unusedVariables false
set_option linter.unusedSimpArgs false
open Go AE EX
set_option maxRecDepth 100000


theorem k56 : (Tryz.prog.info? 25).isSome = true := by kernel_rfl

noncomputable def aLoop : Code := cutC (bodyOf Tryz.f17) [1, 1, 0, 1, 0, 0]
noncomputable def al0 : Code := cutC (bodyOf Tryz.f17) [0]
noncomputable def al1 : Code := cutC (bodyOf Tryz.f17) [1, 0]
noncomputable def al2 : Code := cutC (bodyOf Tryz.f17) [1, 1, 0, 0]
noncomputable def al3 : Code := cutC (bodyOf Tryz.f17) [1, 1, 1]
theorem f37b : Tryz.f17.body = some (.seq al0 (.seq al1 (.seq (.seq al2 (.block 0 (.loop aLoop))) al3))) := rfl

def AI (kids : List X) (tk : Bool) (S0 : St) (i : Nat) (fs : FS) : Prop :=
  fs.t 6 = .slice (embL kids) (tokOf tk) ∧ fs.t 7 = .int .i64 kids.length ∧ fs.t 8 = .int .i64 i ∧
    (if i = 0 then fs.t 3 = .slice [] .clip ∧ fs.S = S0 else fs.t 3 = .slice ((txtL (kids.take i)).map AV.str) (.own S0.T.length i) ∧ fs.S = ⟨S0.H, S0.T ++ [i]⟩)

theorem txtL_append (a b : List X) : txtL (a ++ b) = txtL a ++ txtL b := by simp [txtL_map]
theorem txtL_length (l : List X) : (txtL l).length = l.length := by simp [txtL_map]

theorem all_round (n : Nat) (kids : List X) (tk : Bool) (S0 : St) (hlen : kids.length ≤ 1099511627776)
    (hrec : ∀ x ∈ kids, ∀ S, ev Tryz.prog E n 6 [x.emb] S = some (.ret (.str x.txt), S)) (i : Nat) (hi : i < kids.length) (fs : FS) (h : AI kids tk S0 i fs) :
    ∃ fs', evCode ⟨Tryz.prog, E.esc 17, n⟩ (ev Tryz.prog E n) (E.ps 17) n aLoop fs = some (.norm, fs') ∧ AI kids tk S0 (i + 1) fs' := by
  obtain ⟨t, b, v, S⟩ := fs
  obtain ⟨h1, h2, h3, h4⟩ := h
  simp at h1 h2 h3 h4
  have hxe : kids[i]? = some kids[i] := List.getElem?_eq_getElem hi
  have hr := hrec kids[i] (List.getElem_mem hi) S
  have hsplit : kids.take (i + 1) = kids.take i ++ [kids[i]] := by rw [List.take_add_one, hxe]; rfl
  have htx : txtL (kids.take (i + 1)) = txtL (kids.take i) ++ [kids[i].txt] := by rw [hsplit, txtL_append]; rfl
  have hemb : (embL kids)[i]? = some kids[i].emb := by rw [embL_map, List.getElem?_map, hxe]; rfl
  have htl : (txtL (kids.take i)).length = i := by rw [txtL_length]; simp; omega
  generalize kids[i] = x at *
  obtain ⟨k, nm, a, lo, hi', tk', ks⟩ := x
  generalize (X.mk k nm a lo hi' tk' ks).txt = xt at *
  simp only [X.emb] at hemb hr
  have hw : IntKind.i64.wrap ((i : Int) + 1) = (i : Int) + 1 := wrap64 _ (by omega)
  have hlt : (i : Int) < kids.length := by omega
  obtain ⟨z, hz⟩ := ii24
  by_cases h0 : i = 0
  · subst h0
    simp only [if_pos] at h4
    obtain ⟨h4, rfl⟩ := h4
    have ha := app0 xt S
    refine ⟨_, by
      simp (disch := first | (simp only [List.length_append, List.length_cons, List.length_nil]; omega) | (simp; done) | assumption) [AV.cells?, AV.isCell, -evBuildSlice, aLoop, cutC, bodyOf, Tryz.f17, E_esc, k24, c24, a24, z24, i24, hz, sq22, h1, h2, h3, h4, hemb, hr, hlt, hi, bq3, evBuildSlice, evElems, sq56, z9, c9, a9, ha]
      rfl, by simp [upd, h1], by simp [upd, h2], by simp [upd, wrap64 1 (by omega)], ?_⟩
    rw [if_neg (by omega), htx]
    exact ⟨by simp [upd, txtL], rfl⟩
  · rw [if_neg h0] at h4
    obtain ⟨h4, rfl⟩ := h4
    have ha := app1 (txtL (kids.take i)) xt S0 (by omega)
    rw [htl] at ha
    refine ⟨_, by
      simp (disch := first | (simp only [List.length_append, List.length_cons, List.length_nil]; omega) | (simp; done) | assumption) [AV.cells?, AV.isCell, aLoop, cutC, bodyOf, Tryz.f17, E_esc, k24, c24, a24, z24, i24, hz, sq22, h1, h2, h3, h4, hemb, hr, hlt, bq3, evBuildSlice, evElems, sq56, z9, c9, a9, ha, -List.map_append]
      rfl, by simp [upd, h1], by simp [upd, h2], by simp [upd, hw], ?_⟩
    rw [if_neg (by omega), htx]
    exact ⟨by simp [upd], rfl⟩

theorem ev_all (n : Nat) (hn : 2 ≤ n) (kids : List X) (tk : Bool) (S : St) (hl : kids.length < n) (hlen : kids.length ≤ 1099511627776) (hj : (joinT (txtL kids)).length ≤ 1099511627776)
    (hrec : ∀ x ∈ kids, ∀ S, ev Tryz.prog E n 6 [x.emb] S = some (.ret (.str x.txt), S)) :
    ev Tryz.prog E (n + 1) 17 [.slice (embL kids) (tokOf tk)] S = some (.ret (.str (joinT (txtL kids))), S) := by
  have key : ∀ fs, AI kids tk S 0 fs → ∃ fs', iter n (evCode ⟨Tryz.prog, E.esc 17, n⟩ (ev Tryz.prog E n) (E.ps 17) n aLoop) fs = some (.exit 0, fs') ∧ AI kids tk S kids.length fs' := fun fs h => by
    obtain ⟨⟨o, fs'⟩, r1, r2, r3⟩ := iter_range (Q := fun r => r.1 = .exit 0 ∧ AI kids tk S kids.length r.2) (len := kids.length) (fun i hi fs h => all_round n kids tk S hlen hrec i hi fs h)
      (fun fs h => by
        obtain ⟨t, b, v, S'⟩ := fs
        obtain ⟨h1, h2, h3, h4⟩ := h
        simp at h1 h2 h3 h4
        refine ⟨.exit 0, _, by
          simp (disch := first | (simp only [List.length_append, List.length_cons, List.length_nil]; omega) | (simp; done) | assumption) [AV.cells?, AV.isCell, aLoop, cutC, bodyOf, Tryz.f17, h2, h3, bq3]
          rfl, by simp, rfl, by simp [upd, h1], by simp [upd, h2], by simp [upd, h3], by simpa [upd] using h4⟩) kids.length 0 n fs (by omega) hl h
    simp only at r2
    subst r2
    exact ⟨fs', r1, r3⟩
  have hlen2 : (embL kids).length = kids.length := by rw [embL_map]; simp
  obtain ⟨⟨t, b, v, S'⟩, hr, g1, g2, g3, g4⟩ := key ⟨upd 8 (.int .i64 0) (upd 7 (.int .i64 kids.length) (upd 6 (.slice (embL kids) (tokOf tk)) (upd 3 (.slice [] .clip) (upd 2 (.str []) (argsA [.slice (embL kids) (tokOf tk)]))))), fun _ => (0, []), 5, S⟩
    ⟨by simp [upd], by simp [upd], by simp [upd], by simp [upd]⟩
  simp at g1 g2 g3 g4
  obtain ⟨n, rfl⟩ : ∃ k, n = k + 1 := ⟨n - 1, by omega⟩
  rw [ev_enter (n := n + 1) (show E.ok 17 = true from rfl) Tryz.func17 f37b (Nat.le_of_ble_eq_true rfl) (by decide +kernel)]
  obtain ⟨l, tok, ex, hl1, hl2, hl3⟩ : ∃ (l : List (List UInt8)) (tok : Tok) (ex : List Nat), l = txtL kids ∧ t 3 = .slice (l.map AV.str) tok ∧ S' = ⟨S.H, S.T ++ ex⟩ := by
    by_cases h0 : kids.length = 0
    · rw [if_pos (by simpa using h0)] at g4
      have : kids = [] := List.eq_nil_of_length_eq_zero h0
      subst this
      exact ⟨[], .clip, [], rfl, g4.1, by rw [g4.2]; simp⟩
    · rw [if_neg (by simpa using h0)] at g4
      exact ⟨txtL kids, _, _, rfl, by simpa using g4.1, g4.2⟩
  subst hl3
  have hjn := ev_join n l tok ⟨S.H, S.T ++ ex⟩ (by rw [hl1, txtL_length]; exact hlen) (by rw [hl1]; exact hj)
  have hf := fin_strT (joinT l) S ex
  rw [← hl1]
  simp (disch := first | (simp only [List.length_append, List.length_cons, List.length_nil]; omega) | (simp; done) | assumption) [AV.cells?, AV.isCell, al0, al1, al2, al3, cutC, bodyOf, Tryz.f17, hlen2, sq22, hr, hl2, hjn, hf]
end Go.Proofs.YtmhidempoabehaaGreatDoor.PT
/- Expressions as texts, evaluated (made by genpc.py). No condition. -/
namespace Go.Proofs.YtmhidempoabehaaGreatDoor.PT
set_option linter.unusedVariables false
set_option linter.unusedSimpArgs false
open Go AE EX
set_option maxRecDepth 100000


theorem bulkL_mem {x : X} : ∀ {l : List X}, x ∈ l → x.bulk ≤ bulkL l
  | y :: l, h => by
    rcases List.mem_cons.1 h with rfl | h
    · simp [bulkL]
    · have := bulkL_mem h; simp [bulkL]; omega
theorem numL_mem {x : X} : ∀ {l : List X}, x ∈ l → numL l → x.num
  | y :: l, h, hf => by
    rcases List.mem_cons.1 h with rfl | h
    · exact hf.1
    · exact numL_mem h hf.2

theorem join_bulk {kids : List X} (hf : numL kids) : (joinT (txtL kids)).length ≤ 64 * bulkL kids := by
  have h1 := txtL_len kids hf
  have h2 := join_len (txtL kids)
  omega

set_option maxHeartbeats 4000000 in
theorem ev_Expr : ∀ (m : Nat) (x : X), x.bulk ≤ m → May x → x.num → m ≤ 1048576 → ∀ n, 2 * m + 40 ≤ n → ∀ S, ev Tryz.prog E n 6 [x.emb] S = some (.ret (.str x.txt), S)
  | 0, x, hm, _, _, _, _, _, _ => by cases x; simp [X.bulk] at hm
  | m + 1, x, hm, hmay, hfit, hmm, n, hn, S => by
    obtain ⟨n, rfl⟩ : ∃ k, n = k + 3 := ⟨n - 3, by omega⟩
    obtain ⟨k, nm, a, lo, hi, tk, kids⟩ := x
    obtain ⟨f1, f2, f3, f4, f5, f6⟩ := hfit
    simp only [X.bulk] at hm
    have hsz := size_bulkL kids
    have hlen := sizeL_length kids
    have hrec : ∀ x ∈ kids, May x → ∀ S, ev Tryz.prog E (n + 1) 6 [x.emb] S = some (.ret (.str x.txt), S) := fun x hx hx' S =>
      ev_Expr m x (by have := bulkL_mem hx; omega) hx' (numL_mem hx f6) (by omega) (n + 1) (by omega) S
    have hrec2 : ∀ x ∈ kids, May x → ∀ S, ev Tryz.prog E (n + 2) 6 [x.emb] S = some (.ret (.str x.txt), S) := fun x hx hx' S =>
      ev_Expr m x (by have := bulkL_mem hx; omega) hx' (numL_mem hx f6) (by omega) (n + 2) (by omega) S
    have hj := join_bulk f6
    have hall : (∀ x ∈ kids, May x) → ∀ S, ev Tryz.prog E (n + 2) 17 [.slice (embL kids) (tokOf tk)] S = some (.ret (.str (joinT (txtL kids))), S) := fun h S =>
      ev_all (n + 1) (by omega) kids tk S (by omega) (by omega) (by omega) fun x hx S => hrec x hx (h x hx) S
    have hspan : ev Tryz.prog E (n + 2) 9 [.int .i64 lo, .int .i64 hi] S = some (.ret (.str (spanT lo hi)), S) := ev_Span (n + 1) (by omega) lo hi f3 f4 S
    have hsl := spanT_len f3 f4
    have hword := word_len k
    have hE2 : (embL kids).length = kids.length := by rw [embL_map]; simp
    have p1 : E.ps 6 9 = [(1, 5), (2, 5)] := rfl
    have p2 : E.ps 6 11 = [(1, 4), (2, 4), (1, 6), (2, 6), (4, 6), (1, 11), (2, 11), (4, 11), (6, 11), (7, 11)] := rfl
    have p3 : E.ps 6 13 = [(1, 8), (3, 8), (4, 8), (1, 13), (3, 13), (4, 13), (8, 13), (9, 13), (1, 15), (3, 15), (4, 15), (8, 15), (9, 15)] := rfl
    simp only [X.emb]
    rw [ev_enter (n := n + 2) (show E.ok 6 = true from rfl) Tryz.func6 (fn := Tryz.f6) rfl (Nat.le_of_ble_eq_true rfl) (by decide +kernel)]
    cases hmay with
    | set _ _ _ _ _ _ hk =>
      have ha := hall (fun x hx => by obtain ⟨_, _, _, _, _, rfl⟩ := hk x hx; exact .leaf _ _ _ _ _ _ (.inr (.inr (.inl rfl))) (by simp)) S
      generalize hJ : joinT (txtL kids) = J at *
      simp (disch := first | (simp only [List.length_append, List.length_cons, List.length_nil]; omega) | (simp; done) | assumption) [AV.cells?, AV.isCell, Tryz.f6, E_esc, k24, c24, a24, k3, c3, a3, k22, c22, a22, fq0, fq5, ha, X.txt, hJ]
    | leaf _ _ _ _ _ _ hk hb =>
      have hl : ev Tryz.prog E (n + 2) 20 [.agg [.int .i64 k, .str nm, .int .i64 a, .int .i64 lo, .int .i64 hi, .slice [] (tokOf tk)]] S = some (.ret (.str (leafT k nm a hi)), S) := ev_leaf (n + 1) (by omega) k nm a lo hi (.slice [] (tokOf tk)) rfl hk f2 f4 (by omega) S
      rcases hk with rfl | rfl | rfl | rfl | rfl | rfl | rfl | rfl <;>
        simp (disch := first | (simp only [List.length_append, List.length_cons, List.length_nil]; omega) | (simp; done) | assumption) [AV.cells?, AV.isCell, Tryz.f6, E_esc, k24, c24, a24, k3, c3, a3, k22, c22, a22, fq0, fq5, sq22, hl, X.txt, embL]
    | one _ _ _ _ _ _ x hk hx =>
      have ha := hall (fun y hy => by simp at hy; subst hy; exact hx) S
      have hw : ∀ k, (k = 12 ∨ k = 25 ∨ k = 22 ∨ k = 23 ∨ k = 24) → ev Tryz.prog E (n + 2) 18 [.int .i64 k] S = some (.ret (.str (wordT k)), S) := fun k hk => ev_word (n + 1) k hk S
      generalize hJ : joinT (txtL [x]) = J at *
      generalize embL [x] = es at *
      rcases hk with rfl | rfl | rfl | rfl | rfl | rfl <;>
        simp (disch := first | (simp only [List.length_append, List.length_cons, List.length_nil]; omega) | (simp; done) | assumption) [AV.cells?, AV.isCell, Tryz.f6, E_esc, k24, c24, a24, k3, c3, a3, k2, c2, a2, k22, c22, a22, fq0, fq3, fq4, fq5, sq22, ha, hw, hspan, hJ, X.txt, p1, p2, frontT, wordT]
    | two _ _ _ _ _ _ x y hk hx hy =>
      have ha := hall (fun z hz => by simp at hz; rcases hz with rfl | rfl <;> assumption) S
      have hw : ∀ k, (k = 12 ∨ k = 25 ∨ k = 22 ∨ k = 23 ∨ k = 24) → ev Tryz.prog E (n + 2) 18 [.int .i64 k] S = some (.ret (.str (wordT k)), S) := fun k hk => ev_word (n + 1) k hk S
      have hs : ∀ k, (k = 8 ∨ k = 9 ∨ k = 10 ∨ k = 14 ∨ k = 15 ∨ k = 16 ∨ k = 17 ∨ k = 19 ∨ k = 20) → ev Tryz.prog E (n + 2) 19 [.int .i64 k] S = some (.ret (.str (signT k)), S) := fun k hk => ev_sign (n + 1) k hk S
      have e1 := hrec2 x (by simp) hx S
      have e2 := hrec2 y (by simp) hy S
      have l1 := txt_len x (numL_mem (l := [x, y]) (by simp) f6)
      have l2 := txt_len y (numL_mem (l := [x, y]) (by simp) f6)
      have l3 : x.bulk ≤ 1048576 := by have := bulkL_mem (x := x) (l := [x, y]) (by simp); omega
      have l4 : y.bulk ≤ 1048576 := by have := bulkL_mem (x := y) (l := [x, y]) (by simp); omega
      obtain ⟨z, hz⟩ := ii24
      have ha1 := cells_all x
      have ha2 := cells_all y
      have hc1 := (cells_ok x).2
      have hc2 := (cells_ok y).2
      have ht1 : List.take 6 x.cells = x.cells := List.take_of_length_le (by omega)
      have ht2 : List.take 6 y.cells = y.cells := List.take_of_length_le (by omega)
      simp only [emb_cells, embL] at e1 e2 ha ⊢
      rcases hk with rfl | rfl | rfl | rfl | rfl | rfl | rfl | rfl | rfl | rfl
      rotate_right 1
      · generalize hJ : joinT (txtL [x, y]) = J at *
        simp (disch := first | (simp only [List.length_append, List.length_cons, List.length_nil]; omega) | (simp; done) | assumption) [AV.cells?, AV.isCell, Tryz.f6, E_esc, k24, c24, a24, k3, c3, a3, k2, c2, a2, k22, c22, a22, fq0, fq3, fq4, fq5, sq22, ha, hw, hspan, hJ, X.txt, p1, p2, frontT, wordT]
      all_goals
        simp only [X.txt, txtL]
        generalize x.txt = t1 at *
        generalize y.txt = t2 at *
        generalize x.cells = C1 at *
        generalize y.cells = C2 at *
        simp (disch := first | (simp only [List.length_append, List.length_cons, List.length_nil]; omega) | (simp; done) | assumption) [AV.cells?, AV.isCell, Tryz.f6, E_esc, k24, c24, a24, k3, c3, a3, k22, c22, a22, fq0, fq5, sq22, hs, e1, e2, i24, hz, p3, binT, signT, ha1, ha2, hc1, hc2, ht1, ht2]
end Go.Proofs.YtmhidempoabehaaGreatDoor.PT
/- beadlelaw09.alive, evaluated. No condition. -/
namespace Go.Proofs.YtmhidempoabehaaGreatDoor.PT
set_option linter.unusedVariables false
set_option linter.unusedSimpArgs false
open Go AE EX
set_option maxRecDepth 100000

theorem ev_alive9 : ev Tryz.prog E 3000000 4 [] st0 = some (.ret (.bool true), st0) := by kernel_rfl
end Go.Proofs.YtmhidempoabehaaGreatDoor.PT
/- PrintSettles, the law. Condition: the world outside is closed. -/
namespace Go.Proofs.YtmhidempoabehaaGreatDoor.SM
set_option linter.unusedVariables false
set_option linter.unusedSimpArgs false
open Go AE EX PT NF LX PS
set_option maxRecDepth 100000

mutual
theorem same_symm : ∀ x y : X, x.same y = true → y.same x = true
  | .mk k nm n lo hi tk ks, .mk k' nm' n' lo' hi' tk' ks', h => by
    obtain ⟨rfl, rfl, rfl, rfl, rfl, hl, hs⟩ := same_mk h
    simp [X.same, hl, sameL_symm ks ks' hl hs]
theorem sameL_symm : ∀ l m : List X, l.length = m.length → sameL l m = true → sameL m l = true
  | [], [], _, _ => rfl
  | [], _ :: _, h, _ => by simp at h
  | _ :: _, [], h, _ => by simp at h
  | x :: l, y :: m, hl, hs => by
    simp only [sameL, Bool.and_eq_true] at hs
    simp [sameL, same_symm x y hs.1, sameL_symm l m (by simpa using hl) hs.2]
end
mutual
theorem same_txt : ∀ x y : X, x.same y = true → x.txt = y.txt ∧ x.bulk = y.bulk ∧ (y.num → x.num)
  | .mk k nm n lo hi tk ks, .mk k' nm' n' lo' hi' tk' ks', h => by
    obtain ⟨rfl, rfl, rfl, rfl, rfl, hl, hs⟩ := same_mk h
    obtain ⟨h1, h2, h3⟩ := sameL_txt ks ks' hl hs
    exact ⟨by simp only [X.txt, h1, hl], by simp only [X.bulk, h2], fun hy => ⟨hy.1, hy.2.1, hy.2.2.1, hy.2.2.2.1, trivial, h3 hy.2.2.2.2.2⟩⟩
theorem sameL_txt : ∀ l m : List X, l.length = m.length → sameL l m = true → txtL l = txtL m ∧ bulkL l = bulkL m ∧ (numL m → numL l)
  | [], [], _, _ => ⟨rfl, rfl, id⟩
  | [], _ :: _, h, _ => by simp at h
  | _ :: _, [], h, _ => by simp at h
  | x :: l, y :: m, hl, hs => by
    simp only [sameL, Bool.and_eq_true] at hs
    obtain ⟨h1, h2, h3⟩ := same_txt x y hs.1
    obtain ⟨h4, h5, h6⟩ := sameL_txt l m (by simpa using hl) hs.2
    exact ⟨by simp only [txtL, h1, h4], by simp only [bulkL, h2, h5], fun hy => ⟨h3 hy.1, h6 hy.2⟩⟩
end

mutual
theorem txt_len8 : ∀ x : X, x.num → x.txt.length + 2 ≤ 8 * x.bulk
  | .mk k nm n lo hi tk kids, hf => by
    obtain ⟨f1, f2, f3, f4, f5, f6⟩ := hf
    have h1 := txtL_len8 kids f6
    have h2 := join_len (txtL kids)
    have h3 := front_len (k := k) f3 f4
    have h4 := leaf_len (k := k) nm f2 f4
    have h5 := bin_len k (txtL kids)
    simp only [X.txt, X.bulk]
    (repeat' split) <;> simp <;> omega
theorem txtL_len8 : ∀ l : List X, numL l → Lib.lens (txtL l) + 2 * (txtL l).length ≤ 8 * bulkL l
  | [], _ => by simp [txtL, Lib.lens]
  | x :: l, hf => by
    have h1 := txt_len8 x hf.1
    have h2 := txtL_len8 l hf.2
    have : 7 ≤ x.bulk := by cases x; simp [X.bulk]; omega
    simp only [txtL, bulkL, Lib.lens, List.map_cons, List.sum_cons, List.length_cons] at h2 ⊢
    omega
end

set_option maxHeartbeats 8000000 in
/-- PrintSettles: true. -/
theorem law_PrintSettles (n : Nat) (s : List UInt8) (hs : s.length ≤ 1048576) (hn : n = 3000000) : ev Tryz.prog E (n + 1) 3 [.str s] st0 = some (.ret (.bool true), st0) := by
  have hal : ev Tryz.prog E n 4 [] st0 = some (.ret (.bool true), st0) := by rw [hn]; exact PT.ev_alive9
  have hw : lowB st0.H.length st0.T.length st0.H = true := rfl
  obtain ⟨hA1, hA2⟩ := PS.ev_Expr (n - 1) st0 s (by omega) hw (by omega)
  rw [show n - 1 + 1 = n by omega] at hA1 hA2
  have hz25 : zeroQ Tryz.prog 25 = some z6 := by kernel_rfl
  have zc := xcells zX
  have zl := xlen zX
  have zt := xtake zX
  have ze := xemb zX
  have zd : List.drop 6 zX.cells = [] := rfl
  have zzd : List.drop 6 z6 = [] := rfl
  have hti := tf27
  have l6 := z6_len
  have hb30 := tb30
  cases hR : exprR s with
  | error e =>
    obtain ⟨c, p, d⟩ := e
    obtain ⟨id, S', i1, i2, i3, i4⟩ := hA2 c p d hR
    have hf := fin_grow i4 (.bool true) rfl rfl rfl
    clear hA1 hA2
    generalize zX.cells = zcs at *
    generalize zX.emb = zem at *
    generalize z6 = z at *
    rw [ev_enter (n := n) (show E.ok 3 = true from rfl) Tryz.func3 (fn := Tryz.f3) rfl (Nat.le_of_ble_eq_true rfl) (by decide +kernel)]
    simp (disch := first | (simp only [List.length_append, List.length_cons, List.length_nil]; omega) | (simp; done) | assumption) [AV.cells?, AV.isCell, -AV.cells?, cq_int, cq_nilif, cq_iface, -evBuild, Tryz.f3, E_esc, hz25, hal, i2, zc, zl, zt, ze, zd, zzd, l6, hf, c24, a24, k24, i24, ofC]
  | ok x =>
    have hE1 := hA1 x hR
    obtain ⟨l, q, hL, hT, _, h0, _, hb⟩ := expr_parts hR
    have hok := (chkX_ok x).1 h0
    have hnum := take_num hL hT
    have hE := PT.ev_Expr x.bulk x (Nat.le_refl _) (may_of x.size x (Nat.le_refl _) hok.2.2) hnum (by omega) n (by omega) st0
    have htl := txt_len8 x hnum
    have hlen : evLen Tryz.prog 9 (.str x.txt) = some (.int .i64 (x.txt.length : Int)) := by simp [evLen, sq9]
    have xc := xcells x
    have xl := xlen x
    have xt := xtake x
    have xe := xemb x
    have xd : List.drop 6 x.cells = [] := List.drop_eq_nil_of_le (by rw [xl]; omega)
    obtain ⟨hB1, hB2⟩ := PS.ev_Expr (n - 1) st0 x.txt (by omega) hw (by omega)
    rw [show n - 1 + 1 = n by omega] at hB1 hB2
    by_cases hl : x.txt.length ≤ 4096
    · obtain ⟨y, y1, y2⟩ := expr_back hok hnum hl
      have hP := hB1 y y2
      obtain ⟨t1, t2, t3⟩ := same_txt y x y1
      have hoky := same_ok y1 hok
      have hE2 := PT.ev_Expr y.bulk y (Nat.le_refl _) (may_of y.size y (Nat.le_refl _) hoky.2.2) (t3 hnum) (by omega) n (by omega) st0
      rw [t1] at hE2
      have hsx := size7 x
      have hsy := size7 y
      have hS := ev_aSame x.size x y (Nat.le_refl _) (by omega) (by omega) n (by omega) st0
      rw [same_symm y x y1] at hS
      have hlz : ¬ (4096 : Int) < x.txt.length := by omega
      have yc := xcells y
      have yl := xlen y
      have yt := xtake y
      have ye := xemb y
      have yd : List.drop 6 y.cells = [] := List.drop_eq_nil_of_le (by rw [yl]; omega)
      clear hA1 hA2 hB1 hB2
      generalize (x.txt.length : Int) = L at *
      generalize x.txt = t at *
      generalize x.cells = xcs at *
      generalize x.emb = xem at *
      generalize y.cells = ycs at *
      generalize y.emb = yem at *
      generalize z6 = z at *
      rw [ev_enter (n := n) (show E.ok 3 = true from rfl) Tryz.func3 (fn := Tryz.f3) rfl (Nat.le_of_ble_eq_true rfl) (by decide +kernel)]
      simp (disch := first | (simp only [List.length_append, List.length_cons, List.length_nil]; omega) | (simp; done) | assumption) [AV.cells?, AV.isCell, -AV.cells?, -evLen, cq_int, cq_nilif, cq_iface, cq_bool, -evBuild, Tryz.f3, E_esc, hz25, hal, hE1, hE, hP, hE2, hS, hlen, hlz, xc, xl, xt, xe, xd, yc, yl, yt, ye, yd, l6, zzd, c24, a24, k24, i24, k3, c3, a3, bq3, bq9, hb30, ofC]
    · have hR2 : exprR x.txt = .error (5, 0, 0) := by
        unfold exprR lexAll
        rw [if_pos (by omega)]
        rfl
      obtain ⟨id, S', i1, i2, i3, i4⟩ := hB2 _ _ _ hR2
      have hf := fin_grow i4 (.bool true) rfl rfl rfl
      have hlz : (4096 : Int) < x.txt.length := by omega
      clear hA1 hA2 hB1 hB2
      generalize (x.txt.length : Int) = L at *
      generalize x.txt = t at *
      generalize x.cells = xcs at *
      generalize x.emb = xem at *
      generalize zX.cells = zcs at *
      generalize zX.emb = zem at *
      generalize z6 = z at *
      rw [ev_enter (n := n) (show E.ok 3 = true from rfl) Tryz.func3 (fn := Tryz.f3) rfl (Nat.le_of_ble_eq_true rfl) (by decide +kernel)]
      simp (disch := first | (simp only [List.length_append, List.length_cons, List.length_nil]; omega) | (simp; done) | assumption) [AV.cells?, AV.isCell, -AV.cells?, -evLen, cq_int, cq_nilif, cq_iface, cq_bool, -evBuild, Tryz.f3, E_esc, hz25, hal, hE1, hE, i2, hlen, hlz, hf, xc, xl, xt, xe, xd, zc, zl, zt, ze, zd, l6, zzd, c24, a24, k24, i24, k3, c3, a3, bq3, hb30, ofC]
end Go.Proofs.YtmhidempoabehaaGreatDoor.SM
/- errors.As at the two targets that fault.Code and fault.Place hand it, by its contracts. Condition: the cell of errors.errorType. (After the kit's worked ToyasAs.) -/
namespace Go.Proofs.YtmhidempoabehaaGreatDoor.FA
set_option linter.unusedVariables false
set_option linter.unusedSimpArgs false
open Go Go.RowKit Go.Extern.Stop Go.Stop Go.Extern

/-- errors.As(nil, target). -/
theorem as_nil (t : Value) (w : World) :
    Calls Tryz.prog 27 #[.nilIface, t] w fun e w' => e = .returned (.bool false) ∧ w' = w := by
  go_enter Tryz.func27, Tryz.ntmps27
  go_wp2
  go_ret
  exact ⟨rfl, rfl⟩

theorem valueOf56 (t : Addr) (w : World) : (ReflectliteValue.unpack (.iface 69 (.pointer (some t)))).run Tryz.prog w
    = .ok (.agg #[.pointer (some ⟨2, 69, none⟩), .pointer (some ⟨w.heap.size, 0, none⟩), .int .u64 150]) (w.alloc (.cells #[.pointer (some t)] 69)) := by kernel_rfl
theorem valueOf51 (t : Addr) (w : World) : (ReflectliteValue.unpack (.iface 68 (.pointer (some t)))).run Tryz.prog w
    = .ok (.agg #[.pointer (some ⟨2, 68, none⟩), .pointer (some ⟨w.heap.size, 0, none⟩), .int .u64 150]) (w.alloc (.cells #[.pointer (some t)] 68)) := by kernel_rfl
theorem type56 (a : Addr) (w : World) : (ReflectliteValue.methodAny (ReflectliteValue.valueError "reflectlite.Value.Type" 0) (fun t _ _ _ => ReflectliteType.toType t) #[.agg #[.pointer (some ⟨2, 69, none⟩), .pointer (some a), .int .u64 150]]).run Tryz.prog w
    = .ok (.iface 111 (.agg #[.pointer (some ⟨2, 69, none⟩)])) w := by kernel_rfl
theorem type51 (a : Addr) (w : World) : (ReflectliteValue.methodAny (ReflectliteValue.valueError "reflectlite.Value.Type" 0) (fun t _ _ _ => ReflectliteType.toType t) #[.agg #[.pointer (some ⟨2, 68, none⟩), .pointer (some a), .int .u64 150]]).run Tryz.prog w
    = .ok (.iface 111 (.agg #[.pointer (some ⟨2, 68, none⟩)])) w := by kernel_rfl
theorem methodKind (h : Value) (w : World) : (Go.method 268 111 (.agg #[h]) "Kind").run Tryz.prog w = .ok (110, h) w := by kernel_rfl
theorem kind56 (w : World) : ((ReflectliteType.abiMethod fun t => (fun a : Nat => Value.int IntKind.u8 (a : Int)) <$> Rtype.kind t) #[.pointer (some ⟨2, 69, none⟩)]).run Tryz.prog w = .ok (.int .u8 22) w := by kernel_rfl
theorem kind51 (w : World) : ((ReflectliteType.abiMethod fun t => (fun a : Nat => Value.int IntKind.u8 (a : Int)) <$> Rtype.kind t) #[.pointer (some ⟨2, 68, none⟩)]).run Tryz.prog w = .ok (.int .u8 22) w := by kernel_rfl
theorem kind55 (w : World) : ((ReflectliteType.abiMethod fun t => (fun a : Nat => Value.int IntKind.u8 (a : Int)) <$> Rtype.kind t) #[.pointer (some ⟨2, 64, none⟩)]).run Tryz.prog w = .ok (.int .u8 22) w := by kernel_rfl
theorem kind30 (w : World) : ((ReflectliteType.abiMethod fun t => (fun a : Nat => Value.int IntKind.u8 (a : Int)) <$> Rtype.kind t) #[.pointer (some ⟨2, 41, none⟩)]).run Tryz.prog w = .ok (.int .u8 2) w := by kernel_rfl
theorem rlm (z : Sem Value) (f : TypeId → Addr → Nat → Nat → Sem Value) (v : Value) :
    ReflectliteValue.method z f #[v] = (do match ← ReflectliteValue.parts v with | none => z | some (t, a, fl) => f t a fl (fl % 32)) := rfl
theorem parts56 (a : Addr) (w : World) : (ReflectliteValue.parts (.agg #[.pointer (some ⟨2, 69, none⟩), .pointer (some a), .int .u64 150])).run Tryz.prog w = .ok (some (69, a, 150)) w := by kernel_rfl
theorem parts51 (a : Addr) (w : World) : (ReflectliteValue.parts (.agg #[.pointer (some ⟨2, 68, none⟩), .pointer (some a), .int .u64 150])).run Tryz.prog w = .ok (some (68, a, 150)) w := by kernel_rfl
theorem isNil56 (a p : Addr) (W : World) (ha : W.cell? a = some (.pointer (some p))) :
    (ReflectliteValue.method (ReflectliteValue.valueError "reflectlite.Value.IsNil" 0) ReflectliteValue.isNil #[.agg #[.pointer (some ⟨2, 69, none⟩), .pointer (some a), .int .u64 150]]).run Tryz.prog W = .ok (.bool false) W := by
  rw [rlm]
  simp only [Sem.run_bind, parts56, Result.andThen]
  simp [ReflectliteValue.isNil, loadVar, isAgg, underlying, Tryz.underlying69, ha, Result.andThen]
theorem isNil51 (a p : Addr) (W : World) (ha : W.cell? a = some (.pointer (some p))) :
    (ReflectliteValue.method (ReflectliteValue.valueError "reflectlite.Value.IsNil" 0) ReflectliteValue.isNil #[.agg #[.pointer (some ⟨2, 68, none⟩), .pointer (some a), .int .u64 150]]).run Tryz.prog W = .ok (.bool false) W := by
  rw [rlm]
  simp only [Sem.run_bind, parts51, Result.andThen]
  simp [ReflectliteValue.isNil, loadVar, isAgg, underlying, Tryz.underlying68, ha, Result.andThen]
theorem methodElem (h : Value) (w : World) : (Go.method 268 111 (.agg #[h]) "Elem").run Tryz.prog w = .ok (124, .agg #[h]) w := by kernel_rfl
theorem methodImplements (h : Value) (w : World) : (Go.method 268 111 (.agg #[h]) "Implements").run Tryz.prog w = .ok (125, .agg #[h]) w := by kernel_rfl
theorem methodAssignableTo (h : Value) (w : World) : (Go.method 268 111 (.agg #[h]) "AssignableTo").run Tryz.prog w = .ok (122, .agg #[h]) w := by kernel_rfl
theorem methodAs (h : Addr) (w : World) : (Go.method 268 64 (.pointer (some h)) "As").run Tryz.prog w = .ok (114, .pointer (some h)) w := by kernel_rfl
theorem elem56 (w : World) : (ReflectliteType.method ReflectliteType.elem #[.agg #[.pointer (some ⟨2, 69, none⟩)]]).run Tryz.prog w = .ok (.iface 111 (.agg #[.pointer (some ⟨2, 64, none⟩)])) w := by kernel_rfl
theorem elem51 (w : World) : (ReflectliteType.method ReflectliteType.elem #[.agg #[.pointer (some ⟨2, 68, none⟩)]]).run Tryz.prog w = .ok (.iface 111 (.agg #[.pointer (some ⟨2, 41, none⟩)])) w := by kernel_rfl
theorem implements55 (w : World) : (ReflectliteType.relation "Implements" ReflectliteType.implements_ #[.agg #[.pointer (some ⟨2, 64, none⟩)], .iface 111 (.agg #[.pointer (some ⟨2, 27, none⟩)])]).run Tryz.prog w = .ok (.bool true) w := by kernel_rfl
theorem implements30 (w : World) : (ReflectliteType.relation "Implements" ReflectliteType.implements_ #[.agg #[.pointer (some ⟨2, 41, none⟩)], .iface 111 (.agg #[.pointer (some ⟨2, 27, none⟩)])]).run Tryz.prog w = .ok (.bool true) w := by kernel_rfl
theorem typeOf55 (v : Value) (w : World) : (ReflectliteType.typeOf #[.iface 64 v]).run Tryz.prog w = .ok (.iface 111 (.agg #[.pointer (some ⟨2, 64, none⟩)])) w := by kernel_rfl
theorem assignable55 (w : World) : (ReflectliteType.relation "AssignableTo" ReflectliteType.assignableTo #[.agg #[.pointer (some ⟨2, 64, none⟩)], .iface 111 (.agg #[.pointer (some ⟨2, 64, none⟩)])]).run Tryz.prog w = .ok (.bool true) w := by kernel_rfl
theorem assignable30 (w : World) : (ReflectliteType.relation "AssignableTo" ReflectliteType.assignableTo #[.agg #[.pointer (some ⟨2, 64, none⟩)], .iface 111 (.agg #[.pointer (some ⟨2, 41, none⟩)])]).run Tryz.prog w = .ok (.bool false) w := by kernel_rfl
theorem valueOf55 (e : Addr) (w : World) : (ReflectliteValue.unpack (.iface 64 (.pointer (some e)))).run Tryz.prog w
    = .ok (.agg #[.pointer (some ⟨2, 64, none⟩), .pointer (some ⟨w.heap.size, 0, none⟩), .int .u64 150]) (w.alloc (.cells #[.pointer (some e)] 64)) := by kernel_rfl
theorem elemOf56 (w : World) : (Rtype.elem? 69).run Tryz.prog w = .ok (some 64) w := by kernel_rfl
theorem mk55 (p : Addr) (w : World) : (ReflectliteValue.mk 64 p ReflectliteValue.flagAddr).run Tryz.prog w = .ok (.agg #[.pointer (some ⟨2, 64, none⟩), .pointer (some p), .int .u64 406]) w := by kernel_rfl
theorem elemV56 (a p : Addr) (W : World) (ha : W.cell? a = some (.pointer (some p))) :
    (ReflectliteValue.method (ReflectliteValue.valueError "reflectlite.Value.Elem" 0) ReflectliteValue.elem #[.agg #[.pointer (some ⟨2, 69, none⟩), .pointer (some a), .int .u64 150]]).run Tryz.prog W
      = .ok (.agg #[.pointer (some ⟨2, 64, none⟩), .pointer (some p), .int .u64 406]) W := by
  rw [rlm]
  simp only [Sem.run_bind, parts56, Result.andThen]
  simp [ReflectliteValue.elem, loadVar, isAgg, underlying, Tryz.underlying69, ha, Result.andThen, elemOf56, mk55]
theorem rls (v x : Value) : ReflectliteValue.set #[v, x] = (do
    let (some (dst, a, fl), some (src, b, _)) := (← ReflectliteValue.parts v, ← ReflectliteValue.parts x)
      | unsupported (.noEntry "extern/(internal/reflectlite.Value).Set.zeroValue")
    if fl / ReflectliteValue.flagAddr % 2 == 0 then unsupported (.noEntry "extern/(internal/reflectlite.Value).Set.unaddressable")
    let val ← loadVar src b
    if ← Rtype.directlyAssignable dst src then storeVar dst a val
    else if ← Rtype.implements dst src then
      if (← Rtype.kind src) == 20 then
        match val with
        | .nilIface => unsupported (.noEntry "extern/reflectlite: a nil value of one interface type handed on as a value of another")
        | _ => storeVar dst a val
      else storeVar dst a (.iface src val)
    else panicString ("reflectlite.Set: value of type " ++ (← Rtype.spelt src) ++ " is not assignable to type " ++ (← Rtype.spelt dst))
    pure (.tuple #[])) := rfl
theorem parts55a (a : Addr) (w : World) : (ReflectliteValue.parts (.agg #[.pointer (some ⟨2, 64, none⟩), .pointer (some a), .int .u64 406])).run Tryz.prog w = .ok (some (64, a, 406)) w := by kernel_rfl
theorem parts55 (a : Addr) (w : World) : (ReflectliteValue.parts (.agg #[.pointer (some ⟨2, 64, none⟩), .pointer (some a), .int .u64 150])).run Tryz.prog w = .ok (some (64, a, 150)) w := by kernel_rfl
theorem direct55 (w : World) : (Rtype.directlyAssignable 64 64).run Tryz.prog w = .ok true w := by kernel_rfl
theorem set55 (ta b e : Addr) (old : Value) (W : World) (hb : W.cell? b = some (.pointer (some e))) (ht : W.cell? ta = some old) (hf : W.frozen? ta = false) :
    (ReflectliteValue.set #[.agg #[.pointer (some ⟨2, 64, none⟩), .pointer (some ta), .int .u64 406], .agg #[.pointer (some ⟨2, 64, none⟩), .pointer (some b), .int .u64 150]]).run Tryz.prog W
      = .ok (.tuple #[]) (W.setCell ta (.pointer (some e))) := by
  rw [rls]
  simp only [Sem.run_bind, parts55a, parts55, Result.andThen]
  simp [ReflectliteValue.flagAddr, loadVar, isAgg, underlying, Tryz.underlying64, hb, Result.andThen, direct55, storeVar, Value.cells, storeCells, Addr.add]
  rw [run_store Tryz.prog W ta _ _ (by rfl)]
  simp [ht, hf]
theorem hasAs (v : Value) (w : World) : (Instr.typeAssert (.iface 64 v) 27 116 true).run Tryz.prog w = .ok (.tuple #[.iface 64 v, .bool true]) w :=
  run_typeAssert_hasB Tryz.underlying116 (by kernel_rfl) v 27 w

end Go.Proofs.YtmhidempoabehaaGreatDoor.FA
/- errors.As at the two targets that fault.Code and fault.Place hand it: its walk. Condition: the cell of errors.errorType. (After the kit's worked ToyasAs.) -/
namespace Go.Proofs.YtmhidempoabehaaGreatDoor.FA
set_option linter.unusedVariables false
set_option linter.unusedSimpArgs false
open Go Go.RowKit Go.Extern.Stop Go.Stop Go.Extern
set_option maxRecDepth 100000
set_option maxHeartbeats 4000000

theorem isErrno (v : Value) (w : World) : (Instr.typeAssert (.iface 68 v) 20 68 true).run Tryz.prog w = .ok (.tuple #[v, .bool true]) w := by kernel_rfl
/-- (*Fault).As at a *Errno. -/
theorem fault_as (e t : Addr) (c : Int) (old : Value) (w : World) (he : w.cell? e = some (.int .i64 c)) (ht : w.cell? t = some old) (hf : w.frozen? t = false) :
    Calls Tryz.prog 114 #[.pointer (some e), .iface 68 (.pointer (some t))] w fun ev w' => ev = .returned (.bool true) ∧ w' = w.setCell t (.int .i64 c) := by
  have hE := isErrno
  go_enter Tryz.func114, Tryz.ntmps114
  go_wp2
  go_ret
  exact ⟨rfl, rfl⟩

/-- errors.As(a *Fault, a *Errno): the code is laid there. -/
theorem as_code (e t : Addr) (c : Int) (old : Value) (w : World) (hg : w.cell? ⟨0, 0, none⟩ = some (.iface 111 (.agg #[.pointer (some ⟨2, 27, none⟩)])))
    (he : w.cell? e = some (.int .i64 c)) (ht0 : w.cell? t = some old) (hf0 : w.frozen? t = false) :
    Calls Tryz.prog 27 #[.iface 64 (.pointer (some e)), .iface 68 (.pointer (some t))] w fun ev w' => ev = .returned (.bool true) ∧ w' = (((w.alloc (.cells #[.pointer (some t)] 68)).alloc (.cells #[.pointer (some ⟨2, 68, none⟩), .pointer (some ⟨w.heap.size, 0, none⟩), .int .u64 150] 83)).alloc (.cells #[.pointer (some ⟨2, 68, none⟩), .pointer (some ⟨w.heap.size, 0, none⟩), .int .u64 150] 83)).setCell t (.int .i64 c) := by
  have h34 := @run_callFunc_extern Tryz.prog 43 _ (fun args => ReflectliteValue.unpack (args.getD 0 (.tuple #[]))) Tryz.func43 (by kernel_rfl) (by kernel_rfl) (by kernel_rfl) (by kernel_rfl)
  have h35 := @run_callFunc_extern Tryz.prog 44 _ (ReflectliteValue.methodAny (ReflectliteValue.valueError "reflectlite.Value.Type" 0) (fun t _ _ _ => ReflectliteType.toType t)) Tryz.func44 (by kernel_rfl) (by kernel_rfl) (by kernel_rfl) (by kernel_rfl)
  have h36 := @run_callFunc_extern Tryz.prog 45 _ (ReflectliteValue.method (ReflectliteValue.valueError "reflectlite.Value.IsNil" 0) ReflectliteValue.isNil) Tryz.func45 (by kernel_rfl) (by kernel_rfl) (by kernel_rfl) (by kernel_rfl)
  have h97 := @run_callFunc_extern Tryz.prog 110 _ (ReflectliteType.abiMethod fun t => do pure (.int .u8 (← Rtype.kind t))) Tryz.func110 (by kernel_rfl) (by kernel_rfl) (by kernel_rfl) (by kernel_rfl)
  have h110 := @run_callFunc_extern Tryz.prog 124 _ (ReflectliteType.method ReflectliteType.elem) Tryz.func124 (by kernel_rfl) (by kernel_rfl) (by kernel_rfl) (by kernel_rfl)
  have h111 := @run_callFunc_extern Tryz.prog 125 _ (ReflectliteType.relation "Implements" ReflectliteType.implements_) Tryz.func125 (by kernel_rfl) (by kernel_rfl) (by kernel_rfl) (by kernel_rfl)
  have h49 := @run_callFunc_extern Tryz.prog 64 _ ReflectliteType.typeOf Tryz.func64 (by kernel_rfl) (by kernel_rfl) (by kernel_rfl) (by kernel_rfl)
  have h108 := @run_callFunc_extern Tryz.prog 122 _ (ReflectliteType.relation "AssignableTo" ReflectliteType.assignableTo) Tryz.func122 (by kernel_rfl) (by kernel_rfl) (by kernel_rfl) (by kernel_rfl)
  have tO := typeOf55
  have mA := methodAssignableTo
  have a30 := assignable30
  have f6 := valueOf51
  have f7 := type51
  have mK := methodKind
  have mE := methodElem
  have mI := methodImplements
  have mS := methodAs e
  have k51 := kind51
  have k30 := kind30
  have e51 := elem51
  have i30 := implements30
  have hA := hasAs
  have n8 := isNil51 ⟨w.heap.size, 0, none⟩ t ((w.alloc (.cells #[.pointer (some t)] 68)).alloc (.cells #[.pointer (some ⟨2, 68, none⟩), .pointer (some ⟨w.heap.size, 0, none⟩), .int .u64 150] 83)) (by simp)
  have hlt : 0 < w.heap.size := by
    rcases Nat.eq_zero_or_pos w.heap.size with h0 | h
    · simp [World.cell?, h0] at hg
    · exact h
  have hg2 : ((w.alloc (.cells #[.pointer (some t)] 68)).alloc (.cells #[.pointer (some ⟨2, 68, none⟩), .pointer (some ⟨w.heap.size, 0, none⟩), .int .u64 150] 83)).cell? ⟨0, 0, none⟩ = some (.iface 111 (.agg #[.pointer (some ⟨2, 27, none⟩)])) := by
    rw [World.cell?_alloc_lt _ _ ⟨0, 0, none⟩ (by simp), World.cell?_alloc_lt _ _ ⟨0, 0, none⟩ hlt]; exact hg
  have lt : ∀ {a : Addr} {v : Value}, w.cell? a = some v → a.block < w.heap.size := by
    intro a v h
    rcases Nat.lt_or_ge a.block w.heap.size with h' | h'
    · exact h'
    · simp [World.cell?, Array.getElem?_eq_none h'] at h
  have htl := lt ht0
  have hel := lt he
  have st := fault_as e t c old (((w.alloc (.cells #[.pointer (some t)] 68)).alloc (.cells #[.pointer (some ⟨2, 68, none⟩), .pointer (some ⟨w.heap.size, 0, none⟩), .int .u64 150] 83)).alloc (.cells #[.pointer (some ⟨2, 68, none⟩), .pointer (some ⟨w.heap.size, 0, none⟩), .int .u64 150] 83))
    (by rw [World.cell?_alloc_lt _ _ e (by simp; omega), World.cell?_alloc_lt _ _ e (by simp; omega), World.cell?_alloc_lt _ _ e hel]; exact he)
    (by rw [World.cell?_alloc_lt _ _ t (by simp; omega), World.cell?_alloc_lt _ _ t (by simp; omega), World.cell?_alloc_lt _ _ t htl]; exact ht0)
    (by rw [World.frozen?_alloc_old _ _ t (by simp; omega), World.frozen?_alloc_old _ _ t (by simp; omega), World.frozen?_alloc_old _ _ t (Nat.ne_of_lt htl)]; exact hf0)
  go_enter Tryz.func27, Tryz.ntmps27
  go_wp2
  refine wp_loop_rounds 1 ?_
  rw [rounds_succ]
  go_wp2_with (first | (go_at_call 114; refine st.mono ?_; rintro e w' ⟨rfl, rfl⟩))
  go_ret
  exact ⟨rfl, rfl⟩
end Go.Proofs.YtmhidempoabehaaGreatDoor.FA
/- errors.As at the two targets that fault.Code and fault.Place hand it: its second walk. Condition: the cell of errors.errorType. (After the kit's worked ToyasAs.) -/
namespace Go.Proofs.YtmhidempoabehaaGreatDoor.FA
set_option linter.unusedVariables false
set_option linter.unusedSimpArgs false
open Go Go.RowKit Go.Extern.Stop Go.Stop Go.Extern
set_option maxRecDepth 100000
set_option maxHeartbeats 4000000

/-- errors.As(a *Fault, a **Fault): the pointer is laid there. -/
theorem as_fault (e t : Addr) (old : Value) (w : World) (hg : w.cell? ⟨0, 0, none⟩ = some (.iface 111 (.agg #[.pointer (some ⟨2, 27, none⟩)]))) (ht0 : w.cell? t = some old) (hf0 : w.frozen? t = false) :
    Calls Tryz.prog 27 #[.iface 64 (.pointer (some e)), .iface 69 (.pointer (some t))] w fun ev w' => ev = .returned (.bool true) ∧ w' = ((((w.alloc (.cells #[.pointer (some t)] 69)).alloc (.cells #[.pointer (some ⟨2, 69, none⟩), .pointer (some ⟨w.heap.size, 0, none⟩), .int .u64 150] 83)).alloc (.cells #[.pointer (some ⟨2, 69, none⟩), .pointer (some ⟨w.heap.size, 0, none⟩), .int .u64 150] 83)).alloc (.cells #[.pointer (some e)] 64)).setCell t (.pointer (some e)) := by
  have hx34 := @run_callFunc_extern Tryz.prog 43 _ (fun args => ReflectliteValue.unpack (args.getD 0 (.tuple #[]))) Tryz.func43 (by kernel_rfl) (by kernel_rfl) (by kernel_rfl) (by kernel_rfl)
  have hx35 := @run_callFunc_extern Tryz.prog 44 _ (ReflectliteValue.methodAny (ReflectliteValue.valueError "reflectlite.Value.Type" 0) (fun t _ _ _ => ReflectliteType.toType t)) Tryz.func44 (by kernel_rfl) (by kernel_rfl) (by kernel_rfl) (by kernel_rfl)
  have hx36 := @run_callFunc_extern Tryz.prog 45 _ (ReflectliteValue.method (ReflectliteValue.valueError "reflectlite.Value.IsNil" 0) ReflectliteValue.isNil) Tryz.func45 (by kernel_rfl) (by kernel_rfl) (by kernel_rfl) (by kernel_rfl)
  have hx97 := @run_callFunc_extern Tryz.prog 110 _ (ReflectliteType.abiMethod fun t => do pure (.int .u8 (← Rtype.kind t))) Tryz.func110 (by kernel_rfl) (by kernel_rfl) (by kernel_rfl) (by kernel_rfl)
  have hx110 := @run_callFunc_extern Tryz.prog 124 _ (ReflectliteType.method ReflectliteType.elem) Tryz.func124 (by kernel_rfl) (by kernel_rfl) (by kernel_rfl) (by kernel_rfl)
  have hx111 := @run_callFunc_extern Tryz.prog 125 _ (ReflectliteType.relation "Implements" ReflectliteType.implements_) Tryz.func125 (by kernel_rfl) (by kernel_rfl) (by kernel_rfl) (by kernel_rfl)
  have hx49 := @run_callFunc_extern Tryz.prog 64 _ ReflectliteType.typeOf Tryz.func64 (by kernel_rfl) (by kernel_rfl) (by kernel_rfl) (by kernel_rfl)
  have hx108 := @run_callFunc_extern Tryz.prog 122 _ (ReflectliteType.relation "AssignableTo" ReflectliteType.assignableTo) Tryz.func122 (by kernel_rfl) (by kernel_rfl) (by kernel_rfl) (by kernel_rfl)
  have hx50 := @run_callFunc_extern Tryz.prog 65 _ (ReflectliteValue.method (ReflectliteValue.valueError "reflectlite.Value.Elem" 0) ReflectliteValue.elem) Tryz.func65 (by kernel_rfl) (by kernel_rfl) (by kernel_rfl) (by kernel_rfl)
  have hx51 := @run_callFunc_extern Tryz.prog 66 _ ReflectliteValue.set Tryz.func66 (by kernel_rfl) (by kernel_rfl) (by kernel_rfl) (by kernel_rfl)
  have tO := typeOf55
  have mA := methodAssignableTo
  have a25 := assignable55
  have v25 := valueOf55
  have f6 := valueOf56
  have f7 := type56
  have mK := methodKind
  have mE := methodElem
  have mI := methodImplements
  have k27 := kind56
  have k25 := kind55
  have e27 := elem56
  have i25 := implements55
  have n8 := isNil56 ⟨w.heap.size, 0, none⟩ t ((w.alloc (.cells #[.pointer (some t)] 69)).alloc (.cells #[.pointer (some ⟨2, 69, none⟩), .pointer (some ⟨w.heap.size, 0, none⟩), .int .u64 150] 83)) (by simp)
  have hlt : 0 < w.heap.size := by
    rcases Nat.eq_zero_or_pos w.heap.size with h0 | h
    · simp [World.cell?, h0] at hg
    · exact h
  have hg2 : ((w.alloc (.cells #[.pointer (some t)] 69)).alloc (.cells #[.pointer (some ⟨2, 69, none⟩), .pointer (some ⟨w.heap.size, 0, none⟩), .int .u64 150] 83)).cell? ⟨0, 0, none⟩ = some (.iface 111 (.agg #[.pointer (some ⟨2, 27, none⟩)])) := by
    rw [World.cell?_alloc_lt _ _ ⟨0, 0, none⟩ (by simp), World.cell?_alloc_lt _ _ ⟨0, 0, none⟩ hlt]; exact hg
  have htl : t.block < w.heap.size := by
    rcases Nat.lt_or_ge t.block w.heap.size with h | h
    · exact h
    · simp [World.cell?, Array.getElem?_eq_none h] at ht0
  have el := elemV56 ⟨w.heap.size, 0, none⟩ t (((w.alloc (.cells #[.pointer (some t)] 69)).alloc (.cells #[.pointer (some ⟨2, 69, none⟩), .pointer (some ⟨w.heap.size, 0, none⟩), .int .u64 150] 83)).alloc (.cells #[.pointer (some ⟨2, 69, none⟩), .pointer (some ⟨w.heap.size, 0, none⟩), .int .u64 150] 83)) (by rw [World.cell?_alloc_lt _ _ ⟨w.heap.size, 0, none⟩ (by simp; omega)]; simp)
  have st := set55 t ⟨w.heap.size + 1 + 1 + 1, 0, none⟩ e old ((((w.alloc (.cells #[.pointer (some t)] 69)).alloc (.cells #[.pointer (some ⟨2, 69, none⟩), .pointer (some ⟨w.heap.size, 0, none⟩), .int .u64 150] 83)).alloc (.cells #[.pointer (some ⟨2, 69, none⟩), .pointer (some ⟨w.heap.size, 0, none⟩), .int .u64 150] 83)).alloc (.cells #[.pointer (some e)] 64))
    (by rw [World.cell?_alloc_at _ _ _ _ (by simp)]; rfl)
    (by rw [World.cell?_alloc_lt _ _ t (by simp; omega), World.cell?_alloc_lt _ _ t (by simp; omega), World.cell?_alloc_lt _ _ t (by simp; omega), World.cell?_alloc_lt _ _ t htl]; exact ht0)
    (by rw [World.frozen?_alloc_old _ _ t (by simp; omega), World.frozen?_alloc_old _ _ t (by simp; omega), World.frozen?_alloc_old _ _ t (by simp; omega), World.frozen?_alloc_old _ _ t (Nat.ne_of_lt htl)]; exact hf0)
  go_enter Tryz.func27, Tryz.ntmps27
  go_wp2
  refine wp_loop_rounds 1 ?_
  rw [rounds_succ]
  go_wp2
  go_ret
  exact ⟨rfl, rfl⟩
end Go.Proofs.YtmhidempoabehaaGreatDoor.FA
/- errors.As by its contract, as the evaluator takes it. Condition: what the world holds when a call begins ('GL'). -/
namespace Go.Proofs.YtmhidempoabehaaGreatDoor.AE
set_option linter.unusedVariables false
set_option linter.unusedSimpArgs false
open Go Go.RowKit PT

theorem frozen0 {w : World} {b : Nat} {vs : Array Value} {ty : TypeId} (h : w.heap[b]? = some (.cells vs ty (0, 0))) (o : Nat) : w.frozen? ⟨b, o, none⟩ = false := frozen_of_heap h

/-- a store into a box of one cell, behind new blocks -/
theorem Inv.set1 {w0 : World} {B : Nat} {G : Gh} {S : St} {w w3 : World} (hi : Inv w0 B G S w) (hb : Below w.heap.size w w3) {d k : Nat} {ty : TypeId} {old new : AV} {v : Value}
    (hd : S.H[d]? = some ⟨ty, [old]⟩) (hk : G.phi d = some k) (hv : VR G new v) (hc : new.isCell = true) (hs : new.sealed = true) :
    Inv w0 B G { S with H := S.H.set d ⟨ty, [new]⟩ } (w3.setCell ⟨k, 0, none⟩ v) ∧ Ext G w G (w3.setCell ⟨k, 0, none⟩ v) := by
  obtain ⟨hi3, he3⟩ := hi.grow hb
  let F : Fix := { w0 := w0, B := B, Ge := G, we := w, Se := S, cx := ⟨Tryz.prog, fun _ => false, 0⟩, ie := hi }
  have hp : Pre F ⟨fun _ => .junk, fun _ => (0, []), 0, S⟩ G w3 := ⟨hi3, he3, ⟨fun d hd => absurd rfl hd, fun d e k hd => absurd rfl hd⟩⟩
  have h := (store_heap (i := 0) (off := 0) (new := [new]) (cs := [new]) (nv := [v]) hp hd hk (by simp [wrc]) (by simp [AV.sealedL, hs]) (.cons _ _ _ _ hv .nil) (by
    intro x hx
    rw [List.mem_singleton] at hx
    subst hx
    exact hv.one hc) (by
    intro x hx
    rw [List.mem_singleton] at hx
    subst hx
    exact hc)).2.2
  exact ⟨h.inv, h.ext⟩

theorem asX_ok {args : List AV} {S S' : St} {r : Res} (h : asX args S = some (r, S')) :
    (∃ fn, Tryz.prog.funcs[27]? = some fn ∧ (fn.name == "runtime.NumGoroutine") = false ∧ fn.body.isSome = true) ∧
    ∀ (w0 : World) (B : Nat) (G : Gh) (w : World) (vs : Array Value), Inv w0 B G S w → VRL G args vs.toList →
      Calls Tryz.prog 27 vs w fun e w' => ∃ G', Inv w0 B G' S' w' ∧ Ext G w G' w' ∧ G'.nu = G.nu ∧ ResR G' r e := by
  refine ⟨⟨_, Tryz.func27, by decide +kernel, by decide +kernel⟩, fun w0 B G w vs hi hv => ?_⟩
  have hg := GL_below hi.gl hi.below
  unfold asX at h
  split at h
  · rename_i t
    cases h
    obtain ⟨a⟩ := vs
    simp only at hv
    cases hv with
    | cons _ v0 _ m h0 hm =>
      cases hm with
      | cons _ v1 _ m h1 hm =>
        cases hm
        cases h0
        refine (FA.as_nil v1 w).mono fun e w' ⟨he, hw⟩ => ?_
        subst he; subst hw
        exact ⟨G, hi, .refl G _, rfl, VR.bool _⟩
  · rename_i id d
    split at h
    · rename_i c a1 a2 x hb1 hb2
      cases h
      obtain ⟨a⟩ := vs
      simp only at hv
      cases hv with
      | cons _ v0 _ m h0 hm =>
        cases hm with
        | cons _ v1 _ m h1 hm =>
          cases hm
          cases h0 with
          | iface _ _ p0 h0 =>
            cases h1 with
            | iface _ _ p1 h1 =>
              cases h0 with
              | ptr _ _ b0 hp0 =>
                cases h1 with
                | ptr _ _ b1 hp1 =>
                  obtain ⟨b, vs, k1, k2, k3, k4, k5, k6, k7, k8⟩ := hi.box id _ hb1
                  obtain ⟨b', vs', j1, j2, j3, j4, j5, j6, j7, j8⟩ := hi.box d _ hb2
                  rw [hp0] at k1; cases k1
                  rw [hp1] at j1; cases j1
                  have hc : w.cell? ⟨b0, 0, none⟩ = some (.int .i64 c) := by
                    obtain ⟨v, e1, e2⟩ := k4.get (i := 0) rfl
                    cases e2
                    rw [cell_of_heap k3]
                    simpa using e1
                  obtain ⟨old, ho⟩ : ∃ old, w.cell? ⟨b1, 0, none⟩ = some old := by
                    obtain ⟨v, e1, e2⟩ := j4.get (i := 0) rfl
                    exact ⟨v, by rw [cell_of_heap j3]; simpa using e1⟩
                  refine (FA.as_code ⟨b0, 0, none⟩ ⟨b1, 0, none⟩ c old w hg hc ho (frozen0 j3 0)).mono fun e w' ⟨he, hw⟩ => ?_
                  subst he
                  have hbel : Below w.heap.size w (((w.alloc (.cells #[.pointer (some ⟨b1, 0, none⟩)] 68)).alloc (.cells #[.pointer (some ⟨2, 68, none⟩), .pointer (some ⟨w.heap.size, 0, none⟩), .int .u64 150] 83)).alloc (.cells #[.pointer (some ⟨2, 68, none⟩), .pointer (some ⟨w.heap.size, 0, none⟩), .int .u64 150] 83)) :=
                    (((Below.refl _ w).alloc (Nat.le_refl _) _).alloc (by simp) _).alloc (by simp; omega) _
                  obtain ⟨q1, q2⟩ := hi.set1 hbel (ty := 41) (v := .int .i64 c) hb2 hp1 (.int .i64 c) rfl rfl
                  subst hw
                  exact ⟨G, q1, q2, rfl, VR.bool _⟩
    · cases h
  · rename_i id d
    split at h
    · rename_i x hb2
      cases h
      obtain ⟨a⟩ := vs
      simp only at hv
      cases hv with
      | cons _ v0 _ m h0 hm =>
        cases hm with
        | cons _ v1 _ m h1 hm =>
          cases hm
          cases h0 with
          | iface _ _ p0 h0 =>
            cases h1 with
            | iface _ _ p1 h1 =>
              cases h0 with
              | ptr _ _ b0 hp0 =>
                cases h1 with
                | ptr _ _ b1 hp1 =>
                  obtain ⟨b', vs', j1, j2, j3, j4, j5, j6, j7, j8⟩ := hi.box d _ hb2
                  rw [hp1] at j1; cases j1
                  obtain ⟨old, ho⟩ : ∃ old, w.cell? ⟨b1, 0, none⟩ = some old := by
                    obtain ⟨v, e1, e2⟩ := j4.get (i := 0) rfl
                    exact ⟨v, by rw [cell_of_heap j3]; simpa using e1⟩
                  refine (FA.as_fault ⟨b0, 0, none⟩ ⟨b1, 0, none⟩ old w hg ho (frozen0 j3 0)).mono fun e w' ⟨he, hw⟩ => ?_
                  subst he
                  have hbel : Below w.heap.size w ((((w.alloc (.cells #[.pointer (some ⟨b1, 0, none⟩)] 69)).alloc (.cells #[.pointer (some ⟨2, 69, none⟩), .pointer (some ⟨w.heap.size, 0, none⟩), .int .u64 150] 83)).alloc (.cells #[.pointer (some ⟨2, 69, none⟩), .pointer (some ⟨w.heap.size, 0, none⟩), .int .u64 150] 83)).alloc (.cells #[.pointer (some ⟨b0, 0, none⟩)] 64)) :=
                    ((((Below.refl _ w).alloc (Nat.le_refl _) _).alloc (by simp) _).alloc (by simp; omega) _).alloc (by simp; omega) _
                  obtain ⟨q1, q2⟩ := hi.set1 hbel (ty := 64) (v := .pointer (some ⟨b0, 0, none⟩)) hb2 hp1 (.ptr id 0 b0 hp0) rfl rfl
                  subst hw
                  exact ⟨G, q1, q2, rfl, VR.bool _⟩
    · cases h
  · cases h
end Go.Proofs.YtmhidempoabehaaGreatDoor.AE
