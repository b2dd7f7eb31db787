/- Joined: DqG, DqH, DqI, DqJ, DqK, DqL, DqM, DqN. No condition beyond those of its lemmas. -/
import Derived.Test.YtemggoaefohliaaDoorPsD
import Derived.Test.YtemggoaefohliaaDoorPsC
import Derived.Test.YtemggoaefohliaaDoorPxA
/- The words of a text, by what is left of it. No condition. -/
namespace Go.Proofs.YtemggoaefohliaaDoor.LX
set_option linter.unusedVariables false
set_option linter.unusedSimpArgs false
open Go AE EX PT NF PS
set_option maxRecDepth 100000

def Tk.at (t : Tk) (p : Nat) : Tk := { t with p := p }
def LR.sh (p : Nat) : LR → LR
  | .err c => .err c
  | .word t to => .word (t.at p) (p + to)
theorem far_sh (s : List UInt8) (p : Nat) : far s p = p + far (s.drop p) 0 := by simp [far]
theorem sub_sh (s : List UInt8) (p a k : Nat) : sub s (p + a) (p + k) = sub (s.drop p) a k := by
  simp only [sub, List.drop_take, List.drop_drop]
  congr 1
  omega
theorem next_shift {s : List UInt8} {p : Nat} {c : UInt8} (hc : s[p]? = some c) : nextR s p c = (nextR (s.drop p) 0 c).map (LR.sh p) := by
  unfold nextR
  split
  · rfl
  · have e1 : sub s p (far s p) = sub (s.drop p) 0 (far (s.drop p) 0) := by rw [far_sh s p]; exact sub_sh s p 0 _
    have e2 : ∀ k, sub s (p + 1) (p + 1 + k) = sub (s.drop p) 1 (1 + k) := fun k => by rw [Nat.add_assoc]; exact sub_sh s p 1 (1 + k)
    have e3 : (s.drop p).drop 1 = s.drop (p + 1) := by rw [List.drop_drop]
    simp only [Option.map_some]
    congr 1
    split
    · unfold namedR
      rw [e1, far_sh s p]
      rw [show p + far (s.drop p) 0 - p = far (s.drop p) 0 - 0 by omega]
      split <;> rfl
    · split
      · unfold numberedR
        rw [e1]
        split
        · rw [far_sh s p]; rfl
        · rfl
      · split
        · unfold quotedR
          simp only [Nat.zero_add, e3, e2]
          split
          · rfl
          · split
            · rfl
            · split
              · simp only [LR.sh, Tk.at]
                congr 1
              · rfl
        · unfold signedR
          have e4 : sgAt s p = sgAt (s.drop p) 0 := by simp [sgAt]
          have e5 : (s.drop p)[0]? = some c := by simp [hc]
          rw [e4, e5, hc]
          split
          · rfl
          · split
            · have := sub_sh s p 0 1
              simp only [Nat.add_zero] at this
              rw [this]
              split <;> rfl
            · rfl

/-- all words of what is left, from place p on, by fuel -/
def lexU : Nat → List UInt8 → Nat → Except (Int × Nat) (List Tk)
  | 0, _, _ => .ok []
  | _ + 1, [], p => .ok [⟨5, [], 0, p⟩]
  | f + 1, c :: u, p => match nextR (c :: u) 0 c with
    | none => lexU f u (p + 1)
    | some (.err e) => .error (e, p)
    | some (.word t to) => match lexU f ((c :: u).drop to) (p + to) with
      | .ok l => .ok (t.at p :: l)
      | .error e => .error e
theorem lexF_U {s : List UInt8} : ∀ (f p : Nat) (out : List Tk), p ≤ s.length → lexF s f p out = (match lexU f (s.drop p) p with | .ok l => .ok (out ++ l) | .error e => .error e)
  | 0, p, out, hp => by simp [lexF, lexU]
  | f + 1, p, out, hp => by
    rw [lexF]
    cases hc : s[p]? with
    | none =>
      have := List.getElem?_eq_none_iff.1 hc
      have hd : s.drop p = [] := List.drop_eq_nil_of_le this
      rw [hd]
      simp [lexU]
    | some c =>
      have hlt := (List.getElem?_eq_some_iff.1 hc).1
      have hd : s.drop p = c :: s.drop (p + 1) := by
        rw [List.drop_eq_getElem_cons hlt, (List.getElem?_eq_some_iff.1 hc).2]
      have hsh := next_shift hc
      rw [hd] at hsh ⊢
      simp only [lexU]
      cases hn : nextR (c :: s.drop (p + 1)) 0 c with
      | none =>
        rw [hn] at hsh
        simp only [Option.map_none] at hsh
        rw [hsh]
        exact lexF_U f (p + 1) out (by omega)
      | some r =>
        rw [hn] at hsh
        cases r with
        | err e =>
          simp only [Option.map_some, LR.sh] at hsh
          rw [hsh]
        | word t to =>
          simp only [Option.map_some, LR.sh] at hsh
          rw [hsh]
          simp only
          obtain ⟨_, h2, _⟩ := next_far hc hsh
          rw [lexF_U f (p + to) _ h2, ← hd, List.drop_drop]
          generalize lexU f (List.drop (p + to) s) (p + to) = R
          cases R <;> simp
theorem lexAll_U (s : List UInt8) : lexAll s = if 4096 < s.length then .error (5, 0) else lexU (s.length + 1) s 0 := by
  unfold lexAll
  split
  · rfl
  · rw [lexF_U _ 0 [] (by omega)]
    simp only [List.drop_zero, List.nil_append]
    split <;> rename_i h <;> rw [h]
theorem next_to {c : UInt8} {u : List UInt8} {t : Tk} {to : Nat} (h : nextR (c :: u) 0 c = some (.word t to)) : 0 < to ∧ to ≤ u.length + 1 := by
  obtain ⟨h1, h2, _⟩ := next_far (s := c :: u) (p := 0) rfl h
  exact ⟨h1, by simpa using h2⟩
/-- more fuel, the same -/
theorem lexU_fuel : ∀ (f g : Nat) (u : List UInt8) (p : Nat), u.length < f → f ≤ g → lexU g u p = lexU f u p
  | 0, _, _, _, h, _ => by omega
  | f + 1, 0, _, _, _, h => by omega
  | f + 1, g + 1, [], p, _, _ => rfl
  | f + 1, g + 1, c :: u, p, h1, h2 => by
    simp only [List.length_cons] at h1
    simp only [lexU]
    cases hn : nextR (c :: u) 0 c with
    | none => exact lexU_fuel f g u _ (by omega) (by omega)
    | some r =>
      cases r with
      | err e => rfl
      | word t to =>
        simp only
        obtain ⟨h3, h4⟩ := next_to hn
        rw [lexU_fuel f g _ _ (by simp; omega) (by omega)]

/-! ### a sign behind all -/
theorem takeWhile_stop {f : UInt8 → Bool} {d : UInt8} (hd : f d = false) : ∀ (u v : List UInt8), (u ++ d :: v).takeWhile f = u.takeWhile f
  | [], v => by simp [List.takeWhile, hd]
  | c :: u, v => by
    simp only [List.cons_append, List.takeWhile]
    rw [takeWhile_stop hd u v]
theorem takeWhile_le' (f : UInt8 → Bool) (u : List UInt8) : (u.takeWhile f).length ≤ u.length := takeWhile_le f u
theorem index_app {d : UInt8} (hd : d ≠ 34) : ∀ (u : List UInt8), Lib.indexByte (u ++ [d]) 34 = Lib.indexByte u 34
  | [] => by
    have : (d == 34) = false := by simp [hd]
    simp [Lib.indexByte, this]
  | c :: u => by
    have ih := index_app hd u
    simp only [List.cons_append, Lib.indexByte, ih]
theorem pre_app (c : UInt8) (u q : List UInt8) (hq : q ∈ sgL) : pre (c :: u ++ [41]) q = pre (c :: u) q := by
  have h2 := sgL_len q hq
  have h3 : q.getLast? = some 61 := by
    simp only [sgL, List.mem_cons, List.not_mem_nil, or_false] at hq
    rcases hq with rfl | rfl | rfl <;> rfl
  cases u with
  | nil =>
    have : pre [c] q = false := by simp [pre, h2]
    rw [this]
    obtain ⟨a, b, rfl⟩ : ∃ a b, q = [a, b] := by
      match q, h2 with
      | [a, b], _ => exact ⟨a, b, rfl⟩
    simp at h3
    subst h3
    simp [pre]
  | cons d u =>
    simp only [pre, h2]
    simp
theorem next_app (c : UInt8) (u : List UInt8) : nextR (c :: u ++ [41]) 0 c = nextR (c :: u) 0 c := by
  have ht : tl 41 = false := by decide
  have hf : far (c :: u ++ [41]) 0 = far (c :: u) 0 := by
    simp only [far, List.drop_zero]
    rw [takeWhile_stop ht]
  have hs : ∀ a k, k ≤ (c :: u).length → sub (c :: u ++ [41]) a k = sub (c :: u) a k := fun a k hk => by
    simp only [sub]
    rw [List.take_append_of_le_length hk]
  have hfl : far (c :: u) 0 ≤ (c :: u).length := far_le (by simp)
  unfold nextR
  split
  · rfl
  · congr 1
    split
    · unfold namedR; rw [hf, hs _ _ hfl]
    · split
      · unfold numberedR; rw [hf, hs _ _ hfl]
      · split
        · unfold quotedR
          have e1 : (c :: u ++ [41]).drop (0 + 1) = u ++ [41] := rfl
          have e2 : (c :: u).drop (0 + 1) = u := rfl
          rw [e1, e2, index_app (by decide)]
          split
          · rfl
          · rename_i h34
            obtain ⟨k, hk⟩ : ∃ k : Nat, Lib.indexByte u 34 = (k : Int) := ⟨(Lib.indexByte u 34).toNat, by omega⟩
            have hkl := indexByte_lt _ _ _ hk
            rw [hk]
            simp only [Int.toNat_natCast]
            rw [hs _ _ (by simp; omega)]
        · unfold signedR
          have e1 : sgAt (c :: u ++ [41]) 0 = sgAt (c :: u) 0 := by
            unfold sgAt
            simp only [List.drop_zero]
            have p1 := pre_app c u [58, 61] (by simp [sgL])
            have p2 := pre_app c u [33, 61] (by simp [sgL])
            have p3 := pre_app c u [60, 61] (by simp [sgL])
            simp only [sgL, List.find?_cons, p1, p2, p3, List.find?_nil]
          have e2 : (c :: u ++ [41])[0]? = (c :: u)[0]? := rfl
          rw [e1, e2, hs _ _ (by simp)]
theorem next_paren (u : List UInt8) : nextR (40 :: u) 0 40 = some (.word ⟨4, [40], 0, 0⟩ 1) := by
  have e : sgAt (40 :: u) 0 = none := by
    simp [sgAt, sgL, pre]
  have h1 : spaces.contains 40 = false := by decide
  have h2 : headB ((40 : UInt8).toNat : Int) = false := by decide
  have h3 : digB ((40 : UInt8).toNat : Int) = false := by decide
  have h4 : (((40 : UInt8).toNat : Int) == 34) = false := by decide
  have h5 : signsT.contains 40 = true := by decide
  unfold nextR signedR
  simp only [h1, h2, h3, h4, e, List.getElem?_cons_zero, h5, if_true, Bool.false_eq_true, if_false]
  rfl
theorem lexU_app : ∀ (f : Nat) (u : List UInt8) (p : Nat) (l : List Tk), u.length < f → lexU f u p = .ok l →
    ∃ more, l = more ++ [⟨5, [], 0, ((p + u.length : Nat) : Int)⟩] ∧ lexU (f + 1) (u ++ [41]) (p + 1) = .ok (more.map (fun t => { t with p := t.p + 1 }) ++ [⟨4, [41], 0, ((p + 1 + u.length : Nat) : Int)⟩, ⟨5, [], 0, ((p + 2 + u.length : Nat) : Int)⟩])
  | 0, u, p, l, h, _ => by omega
  | f + 1, [], p, l, _, h => by
    simp only [lexU] at h
    cases h
    refine ⟨[], by simp, ?_⟩
    have h0 : nextR [41] 0 41 = some (.word ⟨4, [41], 0, 0⟩ 1) := by rfl
    simp only [List.nil_append, lexU, h0]
    simp [lexU, Tk.at]
    omega
  | f + 1, c :: u, p, l, hf, h => by
    simp only [List.length_cons] at hf
    simp only [lexU] at h
    have hap := next_app c u
    simp only [List.cons_append] at hap
    cases hn : nextR (c :: u) 0 c with
    | none =>
      rw [hn] at h hap
      obtain ⟨more, e1, e2⟩ := lexU_app f u (p + 1) l (by omega) h
      refine ⟨more, by rw [e1]; simp; omega, ?_⟩
      simp only [List.cons_append]
      rw [lexU]
      simp only [hap]
      rw [e2]
      simp
      omega
    | some r =>
      rw [hn] at h hap
      cases r with
      | err e => cases h
      | word t to =>
        simp only at h
        obtain ⟨h3, h4⟩ := next_to hn
        split at h
        · rename_i l' hl'
          cases h
          have hlen : ((c :: u).drop to).length = u.length + 1 - to := by simp
          obtain ⟨more, e1, e2⟩ := lexU_app f _ (p + to) l' (by rw [hlen]; omega) hl'
          refine ⟨t.at p :: more, by rw [e1]; simp [hlen]; omega, ?_⟩
          simp only [List.cons_append]
          rw [lexU]
          simp only [hap]
          have ed : (c :: (u ++ [41])).drop to = (c :: u).drop to ++ [41] := by
            rw [show c :: (u ++ [41]) = (c :: u) ++ [41] from rfl, List.drop_append_of_le_length (by simpa using h4)]
          rw [ed, show p + 1 + to = p + to + 1 by omega, e2]
          simp [Tk.at, hlen]
          omega
        · cases h
/-- a text in parentheses -/
theorem lexAll_paren {s : List UInt8} {l : List Tk} (h : lexAll s = .ok l) (hl : s.length + 2 ≤ 4096) : ∃ more, l = more ++ [⟨5, [], 0, (s.length : Int)⟩] ∧
    lexAll (40 :: s ++ [41]) = .ok (⟨4, [40], 0, 0⟩ :: more.map (fun t => { t with p := t.p + 1 }) ++ [⟨4, [41], 0, ((1 + s.length : Nat) : Int)⟩, ⟨5, [], 0, ((2 + s.length : Nat) : Int)⟩]) := by
  rw [lexAll_U] at h
  rw [if_neg (by omega)] at h
  obtain ⟨more, e1, e2⟩ := lexU_app _ s 0 l (by omega) h
  refine ⟨more, by simpa using e1, ?_⟩
  rw [lexAll_U, if_neg (by simp; omega)]
  have hlen : (40 :: s ++ [41]).length + 1 = (s.length + 1 + 1) + 1 := by simp
  rw [hlen, List.cons_append, lexU, next_paren]
  simp only [List.drop_one, List.tail_cons, Nat.zero_add] at e2 ⊢
  rw [e2]
  simp [Tk.at]
end Go.Proofs.YtemggoaefohliaaDoor.LX

/- A text in parentheses, parsed: the same, or too deep. No condition. -/
namespace Go.Proofs.YtemggoaefohliaaDoor.PS
set_option linter.unusedVariables false
set_option linter.unusedSimpArgs false
open Go AE EX PT NF LX
set_option maxRecDepth 100000

/-! ### at the end -/
theorem is_end {h : Nat → Tk} {q : Nat} (hq : (h q).k = 5) (w : List UInt8) : isB h q w = false := by
  have := kindOf_ne w
  simp only [isB, hq]
  have : ((5 : Int) == kindOf w) = false := by simp [Ne.symm this]
  simp [this]
theorem opAt_end {h : Nat → Tk} {q : Nat} (hq : (h q).k = 5) : ∀ ops, opAt h q ops = none
  | [] => rfl
  | (w, k) :: r => by rw [opAt, is_end hq, if_neg (by simp)]; exact opAt_end hq r
theorem chain_end {h : Nat → Tk} {F : Nat} {ops : List (List UInt8 × Int)} {sub : Nat → PR X} {p q : Nat} {x : X} (hs : sub p = .ok (x, q)) (hF : 0 < F) (hq : (h q).k = 5) : chainP h F ops sub p = .ok (x, q) := by
  obtain ⟨f, rfl⟩ : ∃ f, F = f + 1 := ⟨F - 1, by omega⟩
  unfold chainP
  rw [hs, th_ok, loopF, opAt_end hq]
theorem chain_err {h : Nat → Tk} {F : Nat} {ops : List (List UInt8 × Int)} {sub : Nat → PR X} {p : Nat} {e : Int × Nat} (hs : sub p = .error e) : chainP h F ops sub p = .error e := by
  unfold chainP
  rw [hs, th_err]
theorem rel_end {h : Nat → Tk} {sub : Nat → PR X} {p q : Nat} {x : X} (hs : sub p = .ok (x, q)) (hq : (h q).k = 5) : relP h sub p = .ok (x, q) := by
  unfold relP
  rw [hs, th_ok]
  simp [is_end hq]
theorem rel_err {h : Nat → Tk} {sub : Nat → PR X} {p : Nat} {e : Int × Nat} (hs : sub p = .error e) : relP h sub p = .error e := by
  unfold relP
  rw [hs, th_err]
theorem any_end {h : Nat → Tk} {F : Nat} {one : Nat → PR X} {p q : Nat} {x : X} (hs : one p = .ok (x, q)) (hF : 0 < F) (hq : (h q).k = 5) : anyP h F one p = .ok (x, q) :=
  chain_end (chain_end (rel_end (chain_end (chain_end hs hF hq) hF hq) hq) hF hq) hF hq
theorem any_err {h : Nat → Tk} {F : Nat} {one : Nat → PR X} {p : Nat} {e : Int × Nat} (hs : one p = .error e) : anyP h F one p = .error e :=
  chain_err (chain_err (rel_err (chain_err (chain_err hs))))

/-! ### one place further on -/
structure Rel (h h' : Nat → Tk) (m : Nat) : Prop where
  k : ∀ i, i < m → (h' (i + 1)).k = (h i).k
  s : ∀ i, i < m → (h' (i + 1)).s = (h i).s
  n : ∀ i, i < m → (h' (i + 1)).n = (h i).n
  e : (h m).k = 5
  ek : (h' (m + 1)).k = 4
  es : (h' (m + 1)).s = [41]
def Sim {α : Type} (m : Nat) (R : α → α → Prop) (sub sub' : Nat → PR α) : Prop :=
  ∀ p x r, p ≤ m → sub p = .ok (x, r) → r ≤ m ∧ ((∃ x', R x x' ∧ sub' (p + 1) = .ok (x', r + 1)) ∨ ∃ e, sub' (p + 1) = .error (32, e))
def TkR (t t' : Tk) : Prop := t'.s = t.s ∧ t'.n = t.n

section
variable {h h' : Nat → Tk} {m : Nat} (hr : Rel h h' m)
include hr
theorem sim_is {i : Nat} {q : List UInt8} (hi : i ≤ m) (hq : q ≠ [41]) : isB h' (i + 1) q = isB h i q := by
  rcases Nat.lt_or_ge i m with h1 | h1
  · simp only [isB, hr.k i h1, hr.s i h1]
  · have : i = m := by omega
    subst this
    rw [is_end hr.e]
    simp only [isB, hr.ek, hr.es]
    have : (([41] : List UInt8) == q) = false := by simp [Ne.symm hq]
    simp [this]
theorem sim_ist {i : Nat} {q : List UInt8} (hi : i ≤ m) (hb : isB h i q = true) : i < m ∧ isB h' (i + 1) q = true := by
  have h1 : i < m := by
    rcases Nat.lt_or_ge i m with h1 | h1
    · exact h1
    · have : i = m := by omega
      subst this
      rw [is_end hr.e] at hb
      cases hb
  refine ⟨h1, ?_⟩
  simp only [isB, hr.k i h1, hr.s i h1] at hb ⊢
  exact hb
theorem sim_need (q : List UInt8) : Sim m Eq (needP h q) (needP h' q) := by
  intro p x r hp hh
  unfold needP at hh
  split at hh
  · rename_i hb
    cases hh
    obtain ⟨h1, h2⟩ := sim_ist hr hp hb
    refine ⟨by omega, .inl ⟨(), rfl, ?_⟩⟩
    unfold needP
    rw [if_pos h2]
  · cases hh
theorem sim_take {k : Int} (hk : k ≠ 5) : Sim m TkR (takeP h k) (takeP h' k) := by
  intro p x r hp hh
  unfold takeP at hh
  split at hh
  · rename_i hb
    cases hh
    have h1 : p < m := by
      rcases Nat.lt_or_ge p m with h1 | h1
      · exact h1
      · have : p = m := by omega
        subst this
        rw [hr.e] at hb
        exact absurd hb.symm hk
    refine ⟨by omega, .inl ⟨h' (p + 1), ⟨hr.s p h1, hr.n p h1⟩, ?_⟩⟩
    unfold takeP
    rw [if_pos (by rw [hr.k p h1]; exact hb)]
  · cases hh
omit hr in
theorem sim_th {α β : Type} {R : α → α → Prop} {S : β → β → Prop} {sub sub' : Nat → PR α} {g g' : α → Nat → PR β} (hR : ∀ v, R v v) (hs : Sim m R sub sub') (hg : ∀ v v', R v v' → Sim m S (g v) (g' v')) :
    Sim m S (fun p => (sub p).th g) (fun p => (sub' p).th g') := by
  intro p x r hp hh
  obtain ⟨v, q, h1, h2⟩ := th_split hh
  obtain ⟨k1, k2⟩ := hs p v q hp h1
  rcases k2 with ⟨v', k3, k4⟩ | ⟨e, k4⟩
  · obtain ⟨j1, j2⟩ := hg v v' k3 q x r k1 h2
    refine ⟨j1, ?_⟩
    simp only [k4, th_ok]
    exact j2
  · exact ⟨(hg v v (hR v) q x r k1 h2).1, .inr ⟨e, by simp only [k4, th_err]⟩⟩
omit hr in
theorem sim_the {α β : Type} {S : β → β → Prop} {sub sub' : Nat → PR α} {g g' : α → Nat → PR β} (hs : Sim m Eq sub sub') (hg : ∀ v, Sim m S (g v) (g' v)) :
    Sim m S (fun p => (sub p).th g) (fun p => (sub' p).th g') := sim_th (fun _ => rfl) hs fun v v' e => by subst e; exact hg v
omit hr in
theorem sim_tht {β : Type} {S : β → β → Prop} {sub sub' : Nat → PR Tk} {g g' : Tk → Nat → PR β} (hs : Sim m TkR sub sub') (hg : ∀ v v', TkR v v' → Sim m S (g v) (g' v')) :
    Sim m S (fun p => (sub p).th g) (fun p => (sub' p).th g') := sim_th (fun _ => ⟨rfl, rfl⟩) hs hg
omit hr in
theorem sim_ok {α : Type} (v : α) : Sim m Eq (fun q => .ok (v, q)) (fun q => .ok (v, q)) := by
  intro p x r hp h
  cases h
  exact ⟨hp, .inl ⟨v, rfl, rfl⟩⟩
omit hr in
theorem sim_error {α : Type} {S : α → α → Prop} (c : Int) (sub' : Nat → PR α) : Sim m S (fun q => .error (c, q)) sub' := by
  intro p x r hp h
  cases h
theorem sim_if {α : Type} {S : α → α → Prop} {q : List UInt8} (hq : q ≠ [41]) {A A' B B' : Nat → PR α} (hA : Sim m S A A') (hB : Sim m S B B') :
    Sim m S (fun p => if isB h p q = true then A (p + 1) else B p) (fun p => if isB h' p q = true then A' (p + 1) else B' p) := by
  intro p x r hp hh
  simp only at hh ⊢
  rw [sim_is hr hp hq]
  split at hh
  · rename_i hb
    obtain ⟨h1, _⟩ := sim_ist hr hp hb
    rw [if_pos hb]
    exact hA (p + 1) x r (by omega) hh
  · rename_i hb
    rw [if_neg hb]
    exact hB p x r hp hh

theorem sim_opAt {i : Nat} (hi : i ≤ m) : ∀ {ops : List (List UInt8 × Int)}, (∀ o ∈ ops, o.1 ≠ [41]) → opAt h' (i + 1) ops = opAt h i ops
  | [], _ => rfl
  | (q, k) :: r, ho => by
    rw [opAt, opAt, sim_is hr hi (ho _ (List.mem_cons_self ..)), sim_opAt hi fun o h => ho o (List.mem_cons_of_mem _ h)]
theorem sim_loop {ops : List (List UInt8 × Int)} (ho : ∀ o ∈ ops, o.1 ≠ [41]) {sub sub' : Nat → PR X} (hs : Sim m Eq sub sub') : ∀ f F e, f ≤ F → Sim m Eq (loopF h ops sub f e) (loopF h' ops sub' F e)
  | 0, F, e, _ => by intro p x r hp hh; cases hh
  | f + 1, 0, e, hF => by omega
  | f + 1, F + 1, e, hF => by
    intro p x r hp hh
    rw [loopF] at hh
    rw [loopF, sim_opAt hr hp ho]
    cases ha : opAt h p ops with
    | none =>
      rw [ha] at hh
      cases hh
      exact ⟨hp, .inl ⟨e, rfl, rfl⟩⟩
    | some k =>
      rw [ha] at hh
      simp only at hh ⊢
      obtain ⟨w, hw⟩ : ∃ q, isB h p q = true := by
        clear hh hs
        induction ops with
        | nil => cases ha
        | cons o r ih =>
          obtain ⟨q, k'⟩ := o
          rw [opAt] at ha
          split at ha
          · rename_i hb; exact ⟨q, hb⟩
          · exact ih (fun o h => ho o (List.mem_cons_of_mem _ h)) ha
      obtain ⟨h1, _⟩ := sim_ist hr hp hw
      exact sim_the hs (fun v => sim_loop ho hs f F _ (by omega)) (p + 1) x r (by omega) hh
theorem sim_chain {ops : List (List UInt8 × Int)} (ho : ∀ o ∈ ops, o.1 ≠ [41]) {sub sub' : Nat → PR X} (hs : Sim m Eq sub sub') {F F' : Nat} (hF : F ≤ F') : Sim m Eq (chainP h F ops sub) (chainP h' F' ops sub') :=
  sim_the hs fun v => sim_loop hr ho hs F F' v hF
theorem sim_rel {sub sub' : Nat → PR X} (hs : Sim m Eq sub sub') : Sim m Eq (relP h sub) (relP h' sub') :=
  sim_the hs fun e => sim_if hr (q := [61]) (by decide) (A := fun r => (sub r).th fun x q => .ok (bothX 14 e x, q)) (A' := fun r => (sub' r).th fun x q => .ok (bothX 14 e x, q)) (sim_the hs fun x => sim_ok _)
    (sim_if hr (q := [33, 61]) (by decide) (A := fun r => (sub r).th fun x q => .ok (oneX 18 (bothX 14 e x), q)) (A' := fun r => (sub' r).th fun x q => .ok (oneX 18 (bothX 14 e x), q)) (sim_the hs fun x => sim_ok _)
    (sim_if hr (q := [60]) (by decide) (A := fun r => (sub r).th fun x q => .ok (bothX 15 e x, q)) (A' := fun r => (sub' r).th fun x q => .ok (bothX 15 e x, q)) (sim_the hs fun x => sim_ok _)
    (sim_if hr (q := [60, 61]) (by decide) (A := fun r => (sub r).th fun x q => .ok (bothX 16 e x, q)) (A' := fun r => (sub' r).th fun x q => .ok (bothX 16 e x, q)) (sim_the hs fun x => sim_ok _)
    (sim_if hr (q := [105, 110]) (by decide) (A := fun r => (sub r).th fun x q => .ok (bothX 17 e x, q)) (A' := fun r => (sub' r).th fun x q => .ok (bothX 17 e x, q)) (sim_the hs fun x => sim_ok _) (sim_ok e)))))
theorem sim_any {one one' : Nat → PR X} (hs : Sim m Eq one one') {F F' : Nat} (hF : F ≤ F') : Sim m Eq (anyP h F one) (anyP h' F' one') :=
  sim_chain hr (by decide) (sim_chain hr (by decide) (sim_rel hr (sim_chain hr (by decide) (sim_chain hr (by decide) hs hF) hF)) hF) hF
theorem sim_setF : ∀ f F ks, f ≤ F → Sim m Eq (setF h f ks) (setF h' F ks)
  | 0, F, ks, _ => by intro p x r hp hh; cases hh
  | f + 1, 0, ks, hF => by omega
  | f + 1, F + 1, ks, hF => by
    have key : Sim m Eq (fun p => (takeP h 3 p).th fun t r => if setBad ks t.s = true then .error (16, r) else if isB h r [125] = true then .ok (setX (ks ++ [leafX 3 t.s 0 0]), r + 1) else (needP h [44] r).th fun _ q => setF h f (ks ++ [leafX 3 t.s 0 0]) q)
        (fun p => (takeP h' 3 p).th fun t r => if setBad ks t.s = true then .error (16, r) else if isB h' r [125] = true then .ok (setX (ks ++ [leafX 3 t.s 0 0]), r + 1) else (needP h' [44] r).th fun _ q => setF h' F (ks ++ [leafX 3 t.s 0 0]) q) := by
      refine sim_tht (sim_take hr (by decide)) fun t t' ht => ?_
      rw [ht.1]
      by_cases hb : setBad ks t.s = true
      · simp only [hb, if_true]
        exact sim_error 16 _
      · simp only [hb, if_false, Bool.false_eq_true]
        exact sim_if hr (q := [125]) (by decide) (A := fun q => .ok (setX (ks ++ [leafX 3 t.s 0 0]), q)) (A' := fun q => .ok (setX (ks ++ [leafX 3 t.s 0 0]), q)) (sim_ok _)
          (sim_the (sim_need hr [44]) fun _ => sim_setF f F _ (by omega))
    intro p x r hp hh
    rw [setF] at hh ⊢
    exact key p x r hp hh
theorem sim_set {F F' : Nat} (hF : F ≤ F') : Sim m Eq (setP h F) (setP h' F') :=
  sim_if hr (q := [125]) (by decide) (A := fun q => .ok (leafX 4 [] 0 0, q)) (A' := fun q => .ok (leafX 4 [] 0 0, q)) (sim_ok _) (sim_setF hr F F' [] hF)
theorem sim_arg {any any' : Nat → PR X} (ha : Sim m Eq any any') : Sim m Eq (argP h any) (argP h' any') :=
  sim_the (sim_need hr [40]) fun _ => sim_the ha fun e => sim_the (sim_need hr [41]) fun _ => sim_ok e
theorem sim_signed {one one' any any' : Nat → PR X} (ho : Sim m Eq one one') (ha : Sim m Eq any any') {F F' : Nat} (hF : F ≤ F') : Sim m Eq (signedP h F one any) (signedP h' F' one' any') :=
  sim_if hr (q := [45]) (by decide) (A := fun q => (one q).th fun x r => .ok (oneX 11 x, r)) (A' := fun q => (one' q).th fun x r => .ok (oneX 11 x, r)) (sim_the ho fun x => sim_ok _)
    (sim_if hr (q := [123]) (by decide) (A := setP h F) (A' := setP h' F') (sim_set hr hF) (sim_arg hr ha))
theorem sim_attr (side : Int) : Sim m Eq (attrP h side) (attrP h' side) :=
  sim_the (sim_need hr [46]) fun _ => sim_tht (sim_take hr (by decide)) fun t t' ht => by rw [ht.1]; exact sim_ok _
theorem sim_times : Sim m Eq (timesP h) (timesP h') :=
  sim_the (sim_need hr [40]) fun _ => sim_tht (sim_take hr (by decide)) fun t t' ht => sim_the (sim_need hr [44]) fun _ => sim_tht (sim_take hr (by decide)) fun u u' hu => sim_the (sim_need hr [41]) fun _ => by rw [ht.1, hu.2]; exact sim_ok _
theorem sim_act : Sim m Eq (actP h) (actP h') :=
  sim_the (sim_need hr [40]) fun _ => sim_tht (sim_take hr (by decide)) fun t t' ht => sim_the (sim_need hr [41]) fun _ => by rw [ht.1]; exact sim_ok _
theorem sim_span : Sim m Eq (spanP h) (spanP h') := by
  refine sim_the (sim_need hr [91]) fun _ => sim_tht (sim_take hr (by decide)) fun t t' ht => sim_the (sim_need hr [44]) fun _ => ?_
  rw [ht.2]
  refine sim_if hr (q := [42]) (by decide) (A := fun r2 => (needP h [93] r2).th fun _ r4 => .ok ((t.n, -1), r4)) (A' := fun r2 => (needP h' [93] r2).th fun _ r4 => .ok ((t.n, -1), r4)) (sim_the (sim_need hr [93]) fun _ => sim_ok _) ?_
  refine sim_tht (sim_take hr (by decide)) fun u u' hu => ?_
  rw [hu.2]
  by_cases hc : u.n < t.n
  · simp only [hc, if_true]; exact sim_error 16 _
  · simp only [hc, if_false]; exact sim_the (sim_need hr [93]) fun _ => sim_ok _
theorem sim_look (k : Int) {any any' : Nat → PR X} (ha : Sim m Eq any any') : Sim m Eq (lookP h k any) (lookP h' k any') :=
  sim_the (sim_span hr) fun lh => sim_the (sim_arg hr ha) fun e => sim_ok _
theorem sim_since {any any' : Nat → PR X} (ha : Sim m Eq any any') : Sim m Eq (sinceP h any) (sinceP h' any') :=
  sim_the (sim_span hr) fun lh => sim_the (sim_need hr [40]) fun _ => sim_the ha fun x => sim_the (sim_need hr [44]) fun _ => sim_the ha fun y => sim_the (sim_need hr [41]) fun _ => sim_ok _
theorem sim_timed {any any' : Nat → PR X} (ha : Sim m Eq any any') : Sim m Eq (timedP h any) (timedP h' any') :=
  sim_if hr (q := [111, 110, 99, 101]) (by decide) (A := lookP h 22 any) (A' := lookP h' 22 any') (sim_look hr 22 ha)
    (sim_if hr (q := [104, 105, 115, 116]) (by decide) (A := lookP h 23 any) (A' := lookP h' 23 any') (sim_look hr 23 ha)
    (sim_if hr (q := [115, 105, 110, 99, 101]) (by decide) (A := sinceP h any) (A' := sinceP h' any') (sim_since hr ha) (sim_error 16 _)))
theorem sim_named {one one' any any' : Nat → PR X} (ho : Sim m Eq one one') (ha : Sim m Eq any any') : Sim m Eq (namedP h one any) (namedP h' one' any') :=
  sim_if hr (q := [116, 114, 117, 101]) (by decide) (A := fun q => .ok (leafX 2 [] 1 0, q)) (A' := fun q => .ok (leafX 2 [] 1 0, q)) (sim_ok _)
    (sim_if hr (q := [102, 97, 108, 115, 101]) (by decide) (A := fun q => .ok (leafX 2 [] 0 0, q)) (A' := fun q => .ok (leafX 2 [] 0 0, q)) (sim_ok _)
    (sim_if hr (q := [110, 111, 119]) (by decide) (A := fun q => .ok (leafX 7 [] 0 0, q)) (A' := fun q => .ok (leafX 7 [] 0 0, q)) (sim_ok _)
    (sim_if hr (q := [110, 111, 116]) (by decide) (A := fun q => (one q).th fun x r => .ok (oneX 18 x, r)) (A' := fun q => (one' q).th fun x r => .ok (oneX 18 x, r)) (sim_the ho fun x => sim_ok _)
    (sim_if hr (q := [115]) (by decide) (A := attrP h 5) (A' := attrP h' 5) (sim_attr hr 5)
    (sim_if hr (q := [111]) (by decide) (A := attrP h 6) (A' := attrP h' 6) (sim_attr hr 6)
    (sim_if hr (q := [97, 99, 116]) (by decide) (A := actP h) (A' := actP h') (sim_act hr)
    (sim_if hr (q := [116, 105, 109, 101, 115]) (by decide) (A := timesP h) (A' := timesP h') (sim_times hr)
    (sim_if hr (q := [108, 101, 110]) (by decide) (A := fun q => (argP h any q).th fun x r => .ok (oneX 12 x, r)) (A' := fun q => (argP h' any' q).th fun x r => .ok (oneX 12 x, r)) (sim_the (sim_arg hr ha) fun x => sim_ok _)
    (sim_if hr (q := [112, 114, 101, 118]) (by decide) (A := fun q => (argP h any q).th fun x r => .ok (oneX 25 x, r)) (A' := fun q => (argP h' any' q).th fun x r => .ok (oneX 25 x, r)) (sim_the (sim_arg hr ha) fun x => sim_ok _)
    (sim_timed hr ha))))))))))
theorem sim_one {F F' : Nat} (hF : F ≤ F') (hm : ∀ k p x r, p ≤ m → oneF h F k p = .ok (x, r) → r ≤ m) : ∀ k, Sim m Eq (oneF h F (k + 1)) (oneF h' F' k)
  | 0 => by
    intro p x r hp hh
    exact ⟨hm _ _ _ _ hp hh, .inr ⟨p + 1, by rw [oneF]⟩⟩
  | k + 1 => by
    intro p x r hp hh
    have ih := sim_one hF hm k
    refine ⟨hm _ _ _ _ hp hh, ?_⟩
    have h1 : p < m := by
      rcases Nat.lt_or_ge p m with h1 | h1
      · exact h1
      · have : p = m := by omega
        subst this
        rw [oneF, hr.e] at hh
        simp at hh
    rw [oneF] at hh
    rw [oneF, hr.k p h1, hr.n p h1, hr.s p h1]
    split at hh
    · rename_i hk
      cases hh
      exact .inl ⟨_, rfl, by rw [if_pos hk]⟩
    · rename_i hk
      rw [if_neg hk]
      split at hh
      · rename_i hk
        cases hh
        exact .inl ⟨_, rfl, by rw [if_pos hk]⟩
      · rename_i hk
        rw [if_neg hk]
        split at hh
        · rename_i hk
          rw [if_pos hk]
          exact (sim_signed hr ih (sim_any hr ih hF) hF p x r hp hh).2
        · rename_i hk
          rw [if_neg hk]
          split at hh
          · rename_i hk
            rw [if_pos hk]
            exact (sim_named hr ih (sim_any hr ih hF) p x r hp hh).2
          · cases hh
end

/-- a text's words in parentheses -/
theorem take_paren {more : List Tk} {e : Int} (hk : ∀ t ∈ more, t.k ≠ 5) {a b c : Int} {x : X} {q : Nat} (ht : takeR (more ++ [⟨5, [], 0, e⟩]) = .ok (x, q)) (hq : (hereT (more ++ [⟨5, [], 0, e⟩]) q).k = 5) (hql : q < (more ++ [(⟨5, [], 0, e⟩ : Tk)]).length) :
    (takeR (⟨4, [40], 0, a⟩ :: more.map (fun t => { t with p := t.p + 1 }) ++ [⟨4, [41], 0, b⟩, ⟨5, [], 0, c⟩]) = .ok (x, more.length + 2) ∧ (hereT (⟨4, [40], 0, a⟩ :: more.map (fun t => { t with p := t.p + 1 }) ++ [⟨4, [41], 0, b⟩, ⟨5, [], 0, c⟩]) (more.length + 2)).k = 5) ∨
    ∃ p, takeR (⟨4, [40], 0, a⟩ :: more.map (fun t => { t with p := t.p + 1 }) ++ [⟨4, [41], 0, b⟩, ⟨5, [], 0, c⟩]) = .error (32, p) := by
  generalize hl : more ++ [(⟨5, [], 0, e⟩ : Tk)] = l at *
  generalize hl' : ((⟨4, [40], 0, a⟩ : Tk) :: more.map (fun t => { t with p := t.p + 1 }) ++ [⟨4, [41], 0, b⟩, ⟨5, [], 0, c⟩]) = l' at *
  have g1 : ∀ i (h : i < more.length), hereT l i = more[i] := fun i h => by
    have : l[i]? = some more[i] := by rw [← hl, List.getElem?_append_left h]; simp
    simp [hereT, this]
  have g2 : hereT l more.length = ⟨5, [], 0, e⟩ := by
    have : l[more.length]? = some ⟨5, [], 0, e⟩ := by rw [← hl]; simp
    simp [hereT, this]
  have g3 : ∀ i (h : i < more.length), hereT l' (i + 1) = { more[i] with p := more[i].p + 1 } := fun i h => by
    have : l'[i + 1]? = some { more[i] with p := more[i].p + 1 } := by
      rw [← hl', List.cons_append, List.getElem?_cons_succ, List.getElem?_append_left (by simpa using h), List.getElem?_map, List.getElem?_eq_getElem h]
      rfl
    simp [hereT, this]
  have g4 : hereT l' (more.length + 1) = ⟨4, [41], 0, b⟩ := by
    have : l'[more.length + 1]? = some ⟨4, [41], 0, b⟩ := by rw [← hl']; simp
    simp [hereT, this]
  have g5 : hereT l' (more.length + 2) = ⟨5, [], 0, c⟩ := by
    have : l'[more.length + 2]? = some ⟨5, [], 0, c⟩ := by rw [← hl']; simp
    simp [hereT, this]
  have g0 : hereT l' 0 = ⟨4, [40], 0, a⟩ := by
    have : l'[0]? = some ⟨4, [40], 0, a⟩ := by rw [← hl']; simp
    simp [hereT, this]
  have hr : Rel (hereT l) (hereT l') more.length := ⟨fun i h => by rw [g1 i h, g3 i h], fun i h => by rw [g1 i h, g3 i h], fun i h => by rw [g1 i h, g3 i h], by rw [g2], by rw [g4], by rw [g4]⟩
  have hlen : l.length = more.length + 1 := by rw [← hl]; simp
  have hlen' : l'.length = more.length + 3 := by rw [← hl']; simp
  have hqm : q = more.length := by
    rcases Nat.lt_or_ge q more.length with h | h
    · rw [g1 q h] at hq
      exact absurd hq (hk _ (List.getElem_mem h))
    · omega
  subst hqm
  have hF : l.length + 1 ≤ l'.length + 1 := by omega
  have hm : ∀ k p x r, p ≤ more.length → oneF (hereT l) (l.length + 1) k p = .ok (x, r) → r ≤ more.length := fun k p x r hp hh => by
    have b2 := bd_one (Wok_end (l := l) (m := more.length) (by rw [g2]) (by omega)) (l.length + 1) k _ _ _ hh
    have hb := bulk_pos x
    simp only [hp, if_true] at b2
    split at b2
    · assumption
    · omega
  have hs := sim_any hr (sim_one hr hF hm 31) hF
  unfold takeR at ht ⊢
  obtain ⟨_, h2⟩ := hs 0 x _ (by omega) ht
  have one0 : oneF (hereT l') (l'.length + 1) 32 0 = argP (hereT l') (anyP (hereT l') (l'.length + 1) (oneF (hereT l') (l'.length + 1) 31)) 0 := by
    rw [oneF, g0]
    have e1 : isB (hereT l') 0 [45] = false := by simp only [isB, g0]; decide
    have e2 : isB (hereT l') 0 [123] = false := by simp only [isB, g0]; decide
    simp [signedP, e1, e2]
  have n0 : needP (hereT l') [40] 0 = .ok ((), 1) := by
    unfold needP
    rw [if_pos]
    simp only [isB, g0]; decide
  rcases h2 with ⟨x', rfl, h2⟩ | ⟨p, h2⟩
  · left
    have n1 : needP (hereT l') [41] (more.length + 1) = .ok ((), more.length + 2) := by
      unfold needP
      rw [if_pos]
      simp only [isB, g4]; decide
    have h3 : oneF (hereT l') (l'.length + 1) 32 0 = .ok (x, more.length + 2) := by
      rw [one0]
      unfold argP
      rw [n0, th_ok, h2, th_ok, n1, th_ok]
    exact ⟨any_end h3 (by omega) (by rw [g5]), by rw [g5]⟩
  · right
    refine ⟨p, any_err ?_⟩
    rw [one0]
    unfold argP
    rw [n0, th_ok, h2, th_err]
end Go.Proofs.YtemggoaefohliaaDoor.PS

/- ParseGroups. Condition: the world outside is closed. -/
namespace Go.Proofs.YtemggoaefohliaaDoor.PS
set_option linter.unusedVariables false
set_option linter.unusedSimpArgs false
open Go AE EX PT NF LX
set_option maxRecDepth 100000

mutual
theorem same_refl : ∀ x : X, x.same x = true
  | .mk k nm n lo hi tk ks => by
    have := sameL_refl ks
    simp [X.same, this]
theorem sameL_refl : ∀ l : List X, sameL l l = true
  | [] => rfl
  | x :: l => by
    have h1 := same_refl x
    have h2 := sameL_refl l
    simp [sameL, h1, h2]
end
/-- what a text that has an expression is -/
theorem expr_parts {s : List UInt8} {x : X} (h : exprR s = .ok x) : ∃ l q, lexAll s = .ok l ∧ takeR l = .ok (x, q) ∧ (hereT l q).k = 5 ∧ chkX x = 0 ∧ q < l.length ∧ x.bulk ≤ 62000 := by
  unfold exprR at h
  cases hL : lexAll s with
  | error e => obtain ⟨c, p⟩ := e; rw [hL] at h; cases h
  | ok l =>
    rw [hL] at h
    simp only at h
    cases hT : takeR l with
    | error e => obtain ⟨c, p⟩ := e; rw [hT] at h; cases h
    | ok r =>
      obtain ⟨y, q⟩ := r
      rw [hT] at h
      simp only at h
      split at h
      · rename_i h5
        split at h
        · rename_i h0
          cases h
          obtain ⟨b1, b2, _⟩ := take_bound hL hT
          exact ⟨l, q, rfl, hT, h5, h0, b1, b2⟩
        · cases h
      · cases h
theorem expr_paren {s : List UInt8} {x : X} (h : exprR s = .ok x) :
    exprR (40 :: s ++ [41]) = .ok x ∨ (∃ p d, exprR (40 :: s ++ [41]) = .error (32, p, d)) ∨ (4096 < s.length + 2 ∧ exprR (40 :: s ++ [41]) = .error (5, 0, 0)) := by
  obtain ⟨l, q, h1, h2, h3, h4, h5, h6⟩ := expr_parts h
  by_cases hl : s.length + 2 ≤ 4096
  · obtain ⟨more, e1, e2⟩ := lexAll_paren h1 hl
    obtain ⟨_, more', e3, e4, _⟩ := lexAll_shape h1
    have : more' = more := by
      have := e1.symm.trans e3
      exact (List.append_inj_left' this (by simp)).symm
    subst this
    rw [e1] at h2 h3 h5
    rcases take_paren e4 h2 h3 h5 (a := 0) (b := ((1 + s.length : Nat) : Int)) (c := ((2 + s.length : Nat) : Int)) with ⟨k1, k2⟩ | ⟨p, k1⟩
    · left
      unfold exprR
      rw [e2]
      simp only [k1]
      rw [if_pos k2, if_pos h4]
    · right; left
      refine ⟨(hereT (⟨4, [40], 0, 0⟩ :: more'.map (fun t => { t with p := t.p + 1 }) ++ [⟨4, [41], 0, ((1 + s.length : Nat) : Int)⟩, ⟨5, [], 0, ((2 + s.length : Nat) : Int)⟩]) p).p, 1, ?_⟩
      unfold exprR
      rw [e2]
      simp only [k1]
  · right; right
    refine ⟨by omega, ?_⟩
    unfold exprR
    rw [lexAll_U, if_pos (by simp; omega)]
    rfl

set_option maxHeartbeats 8000000 in
/-- ParseGroups: true. -/
theorem law_ParseGroups (n : Nat) (s : List UInt8) (hs : s.length ≤ 1048576) (hn : 1200001 ≤ n) : ev Tryd.prog E (n + 2) 4 [.str s] st0 = some (.ret (.bool true), st0) := by
  have hw : lowB st0.H.length st0.T.length st0.H = true := rfl
  obtain ⟨hA1, hA2⟩ := ev_Expr n st0 s (by omega) hw (by omega)
  obtain ⟨hB1, hB2⟩ := ev_Expr n st0 (40 :: s ++ [41]) (by simp; omega) hw (by omega)
  have hal := ev_alive (n - 1) st0 hw (by omega)
  rw [show n - 1 + 2 = n + 1 by omega] at hal
  have hz25 : zeroQ Tryd.prog 25 = some z6 := by kernel_rfl
  have zc := xcells zX
  have zl := xlen zX
  have zd : List.drop 6 zX.cells = [] := rfl
  have hti := tf27
  have l6 := z6_len
  have hb30 := tb30
  have hcat : ([40] ++ s) ++ [41] = 40 :: s ++ [41] := rfl
  have hc1 : ([40] : List UInt8).length + s.length ≤ 4611686018427387904 := by simp; omega
  have hc2 : (40 :: s).length + ([41] : List UInt8).length ≤ 4611686018427387904 := by simp; omega
  cases hR : exprR s with
  | error e =>
    obtain ⟨c, p, d⟩ := e
    obtain ⟨id, S', i1, i2, i3, i4⟩ := hA2 c p d hR
    have hf := fin_grow i4 (.bool true) rfl rfl rfl
    clear hA1 hA2 hB1 hB2
    generalize zX.cells = zcs at *
    generalize zX.emb = zem at *
    generalize z6 = z at *
    rw [show n + 2 = (n + 1) + 1 from rfl, ev_enter (n := n + 1) (show E.ok 4 = true from rfl) Tryd.func4 (fn := Tryd.f4) rfl (Nat.le_of_ble_eq_true rfl) (by decide +kernel)]
    simp (disch := first | (simp only [List.length_append, List.length_cons, List.length_nil]; omega) | (simp; done) | assumption) [AV.cells?, AV.isCell, -AV.cells?, cq_int, cq_nilif, cq_iface, -evBuild, Tryd.f4, E_esc, hz25, hal, i2, zc, zl, zd, l6, hf, c24, a24, k24, i24, ofC]
  | ok x =>
    have hE := hA1 x hR
    obtain ⟨_, _, _, _, _, _, _, hbk⟩ := expr_parts hR
    have hsz := size7 x
    have hsame := ev_same x.size x x (Nat.le_refl _) (by omega) (by omega) (n + 1) (by omega) st0
    rw [same_refl] at hsame
    have xc := xcells x
    have xl := xlen x
    have xt := xtake x
    have xe := xemb x
    have xd : List.drop 6 x.cells = [] := List.drop_eq_nil_of_le (by rw [xl]; omega)
    rcases expr_paren hR with hP | ⟨p, d, hP⟩ | ⟨hlong, hP⟩
    · have hE2 := hB1 x hP
      clear hA1 hA2 hB1 hB2 hP hR
      simp only [List.cons_append] at hE2 hcat
      generalize x.cells = xcs at *
      generalize x.emb = xem at *
      generalize z6 = z at *
      rw [show n + 2 = (n + 1) + 1 from rfl, ev_enter (n := n + 1) (show E.ok 4 = true from rfl) Tryd.func4 (fn := Tryd.f4) rfl (Nat.le_of_ble_eq_true rfl) (by decide +kernel)]
      simp (disch := first | (simp only [List.length_append, List.length_cons, List.length_nil]; omega) | (simp; done) | assumption) [AV.cells?, AV.isCell, -AV.cells?, cq_int, cq_nilif, cq_iface, -evBuild, Tryd.f4, E_esc, hz25, hal, hE, hc1, hc2, hE2, hsame, xc, xl, xt, xe, xd, l6, c24, a24, k24, i24, hb30, ofC]
    · obtain ⟨id, S', i1, i2, i3, i4⟩ := hB2 _ p d hP
      have hf := fin_grow i4 (.bool true) rfl rfl rfl
      have hC : ev Tryd.prog E (n + 1) 9 [.iface 55 (.ptr id 0)] S' = some (.ret (.int .i64 32), S') := by
        cases d with
        | zero => have := ev_Code (n - 1) S' id _ _ _ i3; rwa [show n - 1 + 2 = n + 1 by omega] at this
        | succ d => obtain ⟨_, _, _, j1, _⟩ := i3; have := ev_Code (n - 1) S' id _ _ _ j1; rwa [show n - 1 + 2 = n + 1 by omega] at this
      clear hA1 hA2 hB1 hB2 hP hR i3 i4
      simp only [List.cons_append] at i2
      generalize x.cells = xcs at *
      generalize x.emb = xem at *
      generalize zX.cells = zcs at *
      generalize zX.emb = zem at *
      generalize z6 = z at *
      rw [show n + 2 = (n + 1) + 1 from rfl, ev_enter (n := n + 1) (show E.ok 4 = true from rfl) Tryd.func4 (fn := Tryd.f4) rfl (Nat.le_of_ble_eq_true rfl) (by decide +kernel)]
      simp (disch := first | (simp only [List.length_append, List.length_cons, List.length_nil]; omega) | (simp; done) | assumption) [AV.cells?, AV.isCell, -AV.cells?, cq_int, cq_nilif, cq_iface, -evBuild, Tryd.f4, E_esc, hz25, hal, hE, hc1, hc2, i2, hC, hf, zc, zl, zd, xc, xl, xt, xe, xd, l6, c24, a24, k24, i24, hb30, ofC]
    · obtain ⟨id, S', i1, i2, i3, i4⟩ := hB2 _ _ _ hP
      have hf := fin_grow i4 (.bool true) rfl rfl rfl
      have hC := ev_Code (n - 1) S' id _ _ _ i3
      rw [show n - 1 + 2 = n + 1 by omega] at hC
      have hlz : (4096 : Int) < (s.length : Int) + 2 := by omega
      have hw2 : IntKind.i64.wrap ((s.length : Int) + 2) = (s.length : Int) + 2 := wrap64 _ (by omega)
      clear hA1 hA2 hB1 hB2 hP hR i3 i4
      simp only [List.cons_append] at i2
      generalize x.cells = xcs at *
      generalize x.emb = xem at *
      generalize zX.cells = zcs at *
      generalize zX.emb = zem at *
      generalize z6 = z at *
      rw [show n + 2 = (n + 1) + 1 from rfl, ev_enter (n := n + 1) (show E.ok 4 = true from rfl) Tryd.func4 (fn := Tryd.f4) rfl (Nat.le_of_ble_eq_true rfl) (by decide +kernel)]
      simp (disch := first | (simp only [List.length_append, List.length_cons, List.length_nil]; omega) | (simp; done) | assumption) [AV.cells?, AV.isCell, -AV.cells?, cq_int, cq_nilif, cq_iface, -evBuild, Tryd.f4, E_esc, hz25, hal, hE, hc1, hc2, i2, hC, hf, hlz, hw2, sq9, bq3, zc, zl, zd, xc, xl, xt, xe, xd, l6, c24, a24, k24, i24, hb30, ofC]
end Go.Proofs.YtemggoaefohliaaDoor.PS

/- Words, one behind the other, lexed. No condition. -/
namespace Go.Proofs.YtemggoaefohliaaDoor.LX
set_option linter.unusedVariables false
set_option linter.unusedSimpArgs false
open Go AE EX PT NF PS
set_option maxRecDepth 100000

/-- a word ahead of what is lexed -/
def consL (t : Tk) : Except (Int × Nat) (List Tk) → Except (Int × Nat) (List Tk)
  | .ok l => .ok (t :: l)
  | .error e => .error e
theorem lexU_word {f : Nat} {c : UInt8} {u : List UInt8} {p to : Nat} {t : Tk} (h : nextR (c :: u) 0 c = some (.word t to)) : lexU (f + 1) (c :: u) p = consL (t.at p) (lexU f ((c :: u).drop to) (p + to)) := by
  rw [lexU, h]
  simp only
  split <;> rename_i h1 <;> simp [consL, h1]
theorem lexU_sp (f : Nat) (u : List UInt8) (p : Nat) : lexU (f + 1) (32 :: u) p = lexU f u (p + 1) := by
  rw [lexU]
  have : nextR (32 :: u) 0 32 = none := by
    unfold nextR
    rw [if_pos (by decide)]
  rw [this]
theorem lexU_nil (f : Nat) (p : Nat) : lexU (f + 1) [] p = .ok [⟨5, [], 0, p⟩] := rfl

theorem head_facts (c : UInt8) (h : headB (c.toNat : Int) = true) : spaces.contains c = false ∧ tl c = true := by
  refine ⟨?_, by simp [tl, tailB, h]⟩
  cases hc : spaces.contains c with
  | false => rfl
  | true =>
    have hm := List.contains_iff_mem.1 hc
    simp only [spaces, List.mem_cons, List.not_mem_nil, or_false] at hm
    rcases hm with rfl | rfl | rfl | rfl <;> (exfalso; revert h; decide)
/-- a name, ahead of what is none -/
theorem lexU_name {f : Nat} {w rest : List UInt8} {p : Nat} (hw : nameB w = true) (hr : ∀ c v, rest = c :: v → tl c = false) : lexU (f + 1) (w ++ rest) p = consL ⟨1, w, 0, p⟩ (lexU f rest (p + w.length)) := by
  cases w with
  | nil => cases hw
  | cons c r =>
    simp only [nameB, Bool.and_eq_true, decide_eq_true_eq] at hw
    obtain ⟨⟨h1, h2⟩, h3⟩ := hw
    obtain ⟨h4, h5⟩ := head_facts c h2
    have htw : ((c :: r) ++ rest).takeWhile tl = c :: r := by
      have : ∀ l : List UInt8, l.all tl = true → (l ++ rest).takeWhile tl = l := by
        intro l
        induction l with
        | nil =>
          intro _
          cases rest with
          | nil => rfl
          | cons d v => simp [List.takeWhile, hr d v rfl]
        | cons d l ih =>
          intro hl
          simp only [List.all_cons, Bool.and_eq_true] at hl
          simp only [List.cons_append, List.takeWhile, hl.1, ih hl.2]
      exact this (c :: r) (by simp [h5, h3])
    have hf : far (c :: (r ++ rest)) 0 = r.length + 1 := by
      simp only [far, List.drop_zero]
      have := congrArg List.length htw
      simp only [List.cons_append, List.length_cons] at this
      omega
    have hn : nextR (c :: (r ++ rest)) 0 c = some (.word ⟨1, c :: r, 0, 0⟩ (r.length + 1)) := by
      unfold nextR
      rw [if_neg (by rw [h4]; simp)]
      simp only [h2, if_true]
      unfold namedR
      rw [hf, if_neg (by omega)]
      simp only [sub, List.drop_zero, List.take_succ_cons]
      have : (r ++ rest).take r.length = r := by simp
      rw [this]
      rfl
    rw [List.cons_append, lexU_word hn]
    simp [Tk.at]
/-- a sign of one letter -/
theorem lexU_sign {f : Nat} {c : UInt8} {rest : List UInt8} {p : Nat} (hc : c ∈ signsT) (hr : c = 60 → ∀ v, rest ≠ 61 :: v) : lexU (f + 1) (c :: rest) p = consL ⟨4, [c], 0, p⟩ (lexU f rest (p + 1)) := by
  have hs : sgAt (c :: rest) 0 = none := by
    have h1 : c ≠ 58 ∧ c ≠ 33 := by
      simp only [signsT, List.mem_cons, List.not_mem_nil, or_false] at hc
      rcases hc with rfl | rfl | rfl | rfl | rfl | rfl | rfl | rfl | rfl | rfl | rfl | rfl | rfl | rfl <;> decide
    have p1 : pre (c :: rest) [58, 61] = false := by
      cases rest <;> simp [pre, h1.1]
    have p2 : pre (c :: rest) [33, 61] = false := by
      cases rest <;> simp [pre, h1.2]
    have p3 : pre (c :: rest) [60, 61] = false := by
      cases rest with
      | nil => simp [pre]
      | cons d v =>
        simp only [pre, List.take_succ_cons, List.take_zero, List.length_cons, List.length_nil]
        by_cases h6 : c = 60
        · have : d ≠ 61 := fun e => hr h6 v (by rw [e])
          simp [this]
        · simp [h6]
    simp only [sgAt, List.drop_zero, sgL, List.find?_cons, p1, p2, p3, List.find?_nil]
  have hn : nextR (c :: rest) 0 c = some (.word ⟨4, [c], 0, 0⟩ 1) := by
    have h3 : ∀ c ∈ signsT, spaces.contains c = false ∧ headB (c.toNat : Int) = false ∧ digB (c.toNat : Int) = false ∧ ((c.toNat : Int) == 34) = false ∧ signsT.contains c = true := by decide
    obtain ⟨k1, k2, k3, k4, k5⟩ := h3 c hc
    unfold nextR signedR
    simp only [k1, k2, k3, k4, hs, List.getElem?_cons_zero, k5, if_true, Bool.false_eq_true, if_false]
    rfl
  rw [lexU_word hn]
  simp [Tk.at]
/-- a sign of two letters -/
theorem lexU_sign2 {f : Nat} {q : List UInt8} {rest : List UInt8} {p : Nat} (hq : q ∈ sgL) : lexU (f + 1) (q ++ rest) p = consL ⟨4, q, 0, p⟩ (lexU f rest (p + 2)) := by
  simp only [sgL, List.mem_cons, List.not_mem_nil, or_false] at hq
  have key : ∀ c, c = 58 ∨ c = 33 ∨ c = 60 → nextR (c :: 61 :: rest) 0 c = some (.word ⟨4, [c, 61], 0, 0⟩ 2) := by
    intro c hc
    have hs : sgAt (c :: 61 :: rest) 0 = some [c, 61] := by
      rcases hc with rfl | rfl | rfl <;> simp [sgAt, sgL, pre]
    have h3 : spaces.contains c = false ∧ headB (c.toNat : Int) = false ∧ digB (c.toNat : Int) = false ∧ ((c.toNat : Int) == 34) = false := by
      rcases hc with rfl | rfl | rfl <;> decide
    obtain ⟨k1, k2, k3, k4⟩ := h3
    unfold nextR signedR
    simp only [k1, k2, k3, k4, hs, Bool.false_eq_true, if_false]
    rfl
  rcases hq with rfl | rfl | rfl <;> (simp only [List.cons_append, List.nil_append]; rw [lexU_word (key _ (by simp))]; simp [Tk.at])
end Go.Proofs.YtemggoaefohliaaDoor.LX

/- Two signs between three attributes, lexed and parsed. No condition. -/
namespace Go.Proofs.YtemggoaefohliaaDoor.PS
set_option linter.unusedVariables false
set_option linter.unusedSimpArgs false
open Go AE EX PT NF LX
set_option maxRecDepth 100000

/-- what stands between two: its word, its kind, how tight it is -/
def sgW : Nat → List UInt8
  | 0 => [111, 114] | 1 => [97, 110, 100] | 2 => [61] | 3 => [60] | 4 => [60, 61] | 5 => [105, 110] | 6 => [43] | 7 => [45] | _ => [42]
def sgK : Nat → Int
  | 0 => 20 | 1 => 19 | 2 => 14 | 3 => 15 | 4 => 16 | 5 => 17 | 6 => 8 | 7 => 9 | _ => 10
def sgT : Nat → Int
  | 0 => 0 | 1 => 1 | 2 => 2 | 3 => 2 | 4 => 2 | 5 => 2 | 6 => 3 | 7 => 3 | _ => 4
/-- the kind of word that it is -/
def sgN : Nat → Int
  | 0 => 1 | 1 => 1 | 5 => 1 | _ => 4
theorem lt9 {i : Nat} (h : i < 9) : i = 0 ∨ i = 1 ∨ i = 2 ∨ i = 3 ∨ i = 4 ∨ i = 5 ∨ i = 6 ∨ i = 7 ∨ i = 8 := by omega
theorem sgW_len {i : Nat} (h : i < 9) : (sgW i).length ≤ 3 := by
  rcases lt9 h with rfl | rfl | rfl | rfl | rfl | rfl | rfl | rfl | rfl <;> decide
theorem lex_sg {i : Nat} (h : i < 9) (f : Nat) (rest : List UInt8) (p : Nat) : lexU (f + 1) (sgW i ++ 32 :: rest) p = consL ⟨sgN i, sgW i, 0, p⟩ (lexU f (32 :: rest) (p + (sgW i).length)) := by
  have h32 : ∀ c v, (32 :: rest : List UInt8) = c :: v → tl c = false := fun c v e => by
    cases e; decide
  rcases lt9 h with rfl | rfl | rfl | rfl | rfl | rfl | rfl | rfl | rfl
  · exact lexU_name (by decide) h32
  · exact lexU_name (by decide) h32
  · exact lexU_sign (by decide) (fun e => by cases e)
  · exact lexU_sign (by decide) (fun _ v e => by cases e)
  · exact lexU_sign2 (by decide)
  · exact lexU_name (by decide) h32
  · exact lexU_sign (by decide) (fun e => by cases e)
  · exact lexU_sign (by decide) (fun e => by cases e)
  · exact lexU_sign (by decide) (fun e => by cases e)

def frontT (x y : List UInt8) (i : Nat) : List UInt8 := [115, 46] ++ x ++ [32] ++ sgW i ++ [32, 111, 46] ++ y ++ [32]
def bindT (x y z : List UInt8) (i j : Nat) : List UInt8 := frontT x y i ++ sgW j ++ [32, 115, 46] ++ z
def bindL (x y z : List UInt8) (i j : Nat) (p : Nat → Int) : List Tk :=
  [⟨1, [115], 0, p 0⟩, ⟨4, [46], 0, p 1⟩, ⟨1, x, 0, p 2⟩, ⟨sgN i, sgW i, 0, p 3⟩, ⟨1, [111], 0, p 4⟩, ⟨4, [46], 0, p 5⟩, ⟨1, y, 0, p 6⟩, ⟨sgN j, sgW j, 0, p 7⟩, ⟨1, [115], 0, p 8⟩, ⟨4, [46], 0, p 9⟩, ⟨1, z, 0, p 10⟩, ⟨5, [], 0, p 11⟩]
theorem lex_bind {x y z : List UInt8} (hx : nameB x = true) (hy : nameB y = true) (hz : nameB z = true) {i j : Nat} (hi : i < 9) (hj : j < 9) :
    ∃ p : Nat → Int, lexAll (bindT x y z i j) = .ok (bindL x y z i j p) ∧ p 7 = ((frontT x y i).length : Int) := by
  have nl : ∀ {w : List UInt8}, nameB w = true → w.length ≤ 16 := fun {w} h => by
    cases w with
    | nil => simp
    | cons c r => simp only [nameB, Bool.and_eq_true, decide_eq_true_eq] at h; simpa using h.1.1
  have lx := nl hx
  have ly := nl hy
  have lz := nl hz
  have li := sgW_len hi
  have lj := sgW_len hj
  have hlen : (bindT x y z i j).length ≤ 4096 := by simp [bindT, frontT]; omega
  have hsp : ∀ rest : List UInt8, ∀ c v, (32 :: rest : List UInt8) = c :: v → tl c = false := fun rest c v e => by
    cases e; decide
  have hnil : ∀ c v, ([] : List UInt8) = c :: v → tl c = false := fun c v e => by cases e
  have hdot : ∀ rest : List UInt8, ∀ c v, (46 :: rest : List UInt8) = c :: v → tl c = false := fun rest c v e => by
    cases e; decide
  have s1 : ∀ f rest p, lexU (f + 1) (115 :: 46 :: rest) p = consL ⟨1, [115], 0, p⟩ (lexU f (46 :: rest) (p + 1)) := fun f rest p => lexU_name (w := [115]) (by decide) (hdot rest)
  have o1 : ∀ f rest p, lexU (f + 1) (111 :: 46 :: rest) p = consL ⟨1, [111], 0, p⟩ (lexU f (46 :: rest) (p + 1)) := fun f rest p => lexU_name (w := [111]) (by decide) (hdot rest)
  have d1 : ∀ f rest p, lexU (f + 1) (46 :: rest) p = consL ⟨4, [46], 0, p⟩ (lexU f rest (p + 1)) := fun f rest p => lexU_sign (by decide) (fun e => by cases e)
  have ht : bindT x y z i j = 115 :: 46 :: (x ++ 32 :: (sgW i ++ 32 :: 111 :: 46 :: (y ++ 32 :: (sgW j ++ 32 :: 115 :: 46 :: (z ++ []))))) := by simp [bindT, frontT]
  refine ⟨fun k => match k with
    | 0 => ((0 : Nat) : Int) | 1 => ((0 + 1 : Nat) : Int) | 2 => ((0 + 1 + 1 : Nat) : Int)
    | 3 => ((0 + 1 + 1 + x.length + 1 : Nat) : Int)
    | 4 => ((0 + 1 + 1 + x.length + 1 + (sgW i).length + 1 : Nat) : Int)
    | 5 => ((0 + 1 + 1 + x.length + 1 + (sgW i).length + 1 + 1 : Nat) : Int)
    | 6 => ((0 + 1 + 1 + x.length + 1 + (sgW i).length + 1 + 1 + 1 : Nat) : Int)
    | 7 => ((0 + 1 + 1 + x.length + 1 + (sgW i).length + 1 + 1 + 1 + y.length + 1 : Nat) : Int)
    | 8 => ((0 + 1 + 1 + x.length + 1 + (sgW i).length + 1 + 1 + 1 + y.length + 1 + (sgW j).length + 1 : Nat) : Int)
    | 9 => ((0 + 1 + 1 + x.length + 1 + (sgW i).length + 1 + 1 + 1 + y.length + 1 + (sgW j).length + 1 + 1 : Nat) : Int)
    | 10 => ((0 + 1 + 1 + x.length + 1 + (sgW i).length + 1 + 1 + 1 + y.length + 1 + (sgW j).length + 1 + 1 + 1 : Nat) : Int)
    | _ => ((0 + 1 + 1 + x.length + 1 + (sgW i).length + 1 + 1 + 1 + y.length + 1 + (sgW j).length + 1 + 1 + 1 + z.length : Nat) : Int), ?_, ?_⟩
  · rw [lexAll_U, if_neg (by omega), ← lexU_fuel ((bindT x y z i j).length + 1) ((bindT x y z i j).length + 4 + 1 + 1 + 1 + 1 + 1 + 1 + 1 + 1 + 1 + 1 + 1 + 1 + 1 + 1 + 1 + 1) _ _ (by omega) (by omega)]
    generalize (bindT x y z i j).length + 4 = f
    rw [ht, s1, d1, lexU_name hx (hsp _), lexU_sp, lex_sg hi, lexU_sp, o1, d1, lexU_name hy (hsp _), lexU_sp, lex_sg hj, lexU_sp, s1, d1, lexU_name hz hnil, lexU_nil]
    rfl
  · simp [frontT]; omega

def attrS (x : List UInt8) : X := leafX 5 x 0 0
def attrO (x : List UInt8) : X := leafX 6 x 0 0
def bindX (x y z : List UInt8) (i j : Nat) : X :=
  if sgT j ≤ sgT i then bothX (sgK j) (bothX (sgK i) (attrS x) (attrO y)) (attrS z) else bothX (sgK i) (attrS x) (bothX (sgK j) (attrO y) (attrS z))
theorem take_bind (x y z : List UInt8) (p : Nat → Int) {i j : Nat} (hi : i < 9) (hj : j < 9) :
    (¬ (sgT i = 2 ∧ sgT j = 2) → takeR (bindL x y z i j p) = .ok (bindX x y z i j, 11)) ∧ ((sgT i = 2 ∧ sgT j = 2) → takeR (bindL x y z i j p) = .ok (bothX (sgK i) (attrS x) (attrO y), 7)) := by
  rcases lt9 hi with rfl | rfl | rfl | rfl | rfl | rfl | rfl | rfl | rfl <;> rcases lt9 hj with rfl | rfl | rfl | rfl | rfl | rfl | rfl | rfl | rfl <;>
    first
    | exact ⟨fun _ => by kernel_rfl, fun h => absurd h (by decide)⟩
    | exact ⟨fun h => absurd h (by decide), fun _ => by kernel_rfl⟩
theorem ok_attr {k : Int} (hk : k = 5 ∨ k = 6) {x : List UInt8} (hx : nameB x = true) : MayAll (leafX k x 0 0) := by
  rcases hk with rfl | rfl
  · exact (mayAll_more (by decide)).2 ⟨by simp [kinds], by decide, by constructor <;> simp [hx], by simp⟩
  · exact (mayAll_more (by decide)).2 ⟨by simp [kinds], by decide, by constructor <;> simp [hx], by simp⟩
theorem ok_both {i : Nat} (hi : i < 9) {a b : X} (ha : MayAll a) (hb : MayAll b) : MayAll (bothX (sgK i) a b) := by
  have hall : ∀ x ∈ [a, b], MayAll x := by
    intro x hx
    simp at hx
    rcases hx with rfl | rfl
    · exact ha
    · exact hb
  rcases lt9 hi with rfl | rfl | rfl | rfl | rfl | rfl | rfl | rfl | rfl <;>
    exact (mayAll_more (by decide)).2 ⟨by simp [kinds, sgK], by simp [sgK, kidsI], by constructor <;> simp [sgK], hall⟩
theorem ok_bind {x y z : List UInt8} (hx : nameB x = true) (hy : nameB y = true) (hz : nameB z = true) {i j : Nat} (hi : i < 9) (hj : j < 9) : OKx (bindX x y z i j) := by
  have k4 : ∀ {i}, i < 9 → (sgK i == 4) = false := fun {i} h => by
    rcases lt9 h with rfl | rfl | rfl | rfl | rfl | rfl | rfl | rfl | rfl <;> decide
  have i4 := k4 hi
  have j4 := k4 hj
  have sx := ok_attr (k := 5) (.inl rfl) hx
  have oy := ok_attr (k := 6) (.inr rfl) hy
  have sz := ok_attr (k := 5) (.inl rfl) hz
  unfold bindX
  split
  · exact ⟨by simp [bothX, attrS, attrO, leafX, X.dep, depL, i4, j4], by simp [bothX, attrS, attrO, leafX, X.nodes, nodesL, i4, j4], ok_both hj (ok_both hi sx oy) sz⟩
  · exact ⟨by simp [bothX, attrS, attrO, leafX, X.dep, depL, i4, j4], by simp [bothX, attrS, attrO, leafX, X.nodes, nodesL, i4, j4], ok_both hi sx (ok_both hj oy sz)⟩
theorem expr_bind {x y z : List UInt8} (hx : nameB x = true) (hy : nameB y = true) (hz : nameB z = true) {i j : Nat} (hi : i < 9) (hj : j < 9) :
    (¬ (sgT i = 2 ∧ sgT j = 2) → exprR (bindT x y z i j) = .ok (bindX x y z i j)) ∧ ((sgT i = 2 ∧ sgT j = 2) → exprR (bindT x y z i j) = .error (16, ((frontT x y i).length : Int), 0)) := by
  obtain ⟨p, h1, h2⟩ := lex_bind hx hy hz hi hj
  obtain ⟨t1, t2⟩ := take_bind x y z p hi hj
  refine ⟨fun h => ?_, fun h => ?_⟩
  · unfold exprR
    rw [h1]
    simp only [t1 h]
    rw [if_pos (show (hereT (bindL x y z i j p) 11).k = 5 from rfl), if_pos ((chkX_ok _).2 (ok_bind hx hy hz hi hj))]
  · unfold exprR
    rw [h1]
    simp only [t2 h]
    have h7 : hereT (bindL x y z i j p) 7 = ⟨sgN j, sgW j, 0, p 7⟩ := rfl
    rw [h7, if_neg, h2]
    rcases lt9 hj with rfl | rfl | rfl | rfl | rfl | rfl | rfl | rfl | rfl <;> simp [sgN]
end Go.Proofs.YtemggoaefohliaaDoor.PS

/- ParseBinds. Condition: the world outside is closed. -/
namespace Go.Proofs.YtemggoaefohliaaDoor.PS
set_option linter.unusedVariables false
set_option linter.unusedSimpArgs false
open Go AE EX PT NF LX
set_option maxRecDepth 100000

def clampN (p : Int) : Nat := if p < 0 ∨ 8 < p then 0 else p.toNat
theorem clamp_lt (p : Int) : clampN p < 9 := by unfold clampN; split <;> omega
theorem z53 : zeroQ Tryd.prog 53 = some [.int .i64 0, .int .i64 0, .int .i64 0, .int .i64 0, .int .i64 0, .int .i64 0, .int .i64 0, .int .i64 0, .int .i64 0] := by kernel_rfl
theorem z54 : zeroQ Tryd.prog 54 = some [.str [], .str [], .str [], .str [], .str [], .str [], .str [], .str [], .str []] := by kernel_rfl
theorem p53 : partsQ Tryd.prog 53 = true := by kernel_rfl
theorem p54 : partsQ Tryd.prog 54 = true := by kernel_rfl
theorem q53 : arrQ Tryd.prog 53 = some (9, 3) := by kernel_rfl
theorem q54 : arrQ Tryd.prog 54 = some (9, 9) := by kernel_rfl
theorem u53 : Tryd.prog.underlying 53 = some (.array 9 3) := by kernel_rfl
theorem u54 : Tryd.prog.underlying 54 = some (.array 9 9) := by kernel_rfl
theorem c53 : Tryd.prog.cellsOf 53 = 9 := by kernel_rfl
theorem c54 : Tryd.prog.cellsOf 54 = 9 := by kernel_rfl
theorem i53 : (Tryd.prog.info? 53).isSome = true := by kernel_rfl
theorem i54 : (Tryd.prog.info? 54).isSome = true := by kernel_rfl
theorem i9 : (Tryd.prog.info? 9).isSome = true := by kernel_rfl
def ksA : List AV := [.int .i64 20, .int .i64 19, .int .i64 14, .int .i64 15, .int .i64 16, .int .i64 17, .int .i64 8, .int .i64 9, .int .i64 10]
def wsA : List AV := [.str [111, 114], .str [97, 110, 100], .str [61], .str [60], .str [60, 61], .str [105, 110], .str [43], .str [45], .str [42]]
def tsA : List AV := [.int .i64 0, .int .i64 1, .int .i64 2, .int .i64 2, .int .i64 2, .int .i64 2, .int .i64 3, .int .i64 3, .int .i64 4]
theorem bK : evBuild Tryd.prog 53 [(0, .int .i64 20), (1, .int .i64 19), (2, .int .i64 14), (3, .int .i64 15), (4, .int .i64 16), (5, .int .i64 17), (6, .int .i64 8), (7, .int .i64 9), (8, .int .i64 10)] = some (.agg ksA) := by
  simp [evBuild, p53, z53, fillA, placeQ, u53, c3, AV.cells?, wrc, ksA]
theorem bW : evBuild Tryd.prog 54 [(0, .str [111, 114]), (1, .str [97, 110, 100]), (2, .str [61]), (3, .str [60]), (4, .str [60, 61]), (5, .str [105, 110]), (6, .str [43]), (7, .str [45]), (8, .str [42])] = some (.agg wsA) := by
  simp [evBuild, p54, z54, fillA, placeQ, u54, c9, AV.cells?, wrc, wsA]
theorem bT : evBuild Tryd.prog 53 [(0, .int .i64 0), (1, .int .i64 1), (2, .int .i64 2), (3, .int .i64 2), (4, .int .i64 2), (5, .int .i64 2), (6, .int .i64 3), (7, .int .i64 3), (8, .int .i64 4)] = some (.agg tsA) := by
  simp [evBuild, p53, z53, fillA, placeQ, u53, c3, AV.cells?, wrc, tsA]
theorem cellsA (l : List AV) (h : l.all AV.isCell = true) : (AV.agg l).cells? = some l := by simp only [AV.cells?, h, if_true]

noncomputable def sa12 : Code := .seq (cutC (bodyOf Tryd.f12) [0]) (.seq (cutC (bodyOf Tryd.f12) [1, 0]) (.seq (cutC (bodyOf Tryd.f12) [1, 1, 0]) (.seq (cutC (bodyOf Tryd.f12) [1, 1, 1, 0]) (cutC (bodyOf Tryd.f12) [1, 1, 1, 1, 0]))))
noncomputable def sb12 : Code := cutC (bodyOf Tryd.f12) [1, 1, 1, 1, 1]
theorem ev_sign (n : Nat) (p : Int) (S : St) : ev Tryd.prog E (n + 1) 12 [.int .i64 p] S = some (.ret (.tup [.str (sgW (clampN p)), .int .i64 (sgK (clampN p)), .int .i64 (sgT (clampN p))]), S) := by
  have hps : E.ps 12 6 = [(2, 5), (2, 8), (5, 8)] := rfl
  have h1 := bK
  have h2 := bW
  have h3 := bT
  have a1 := cellsA ksA rfl
  have a2 := cellsA wsA rfl
  have a3' := cellsA tsA rfl
  have l1 : ksA.length = 9 := rfl
  have l2 : wsA.length = 9 := rfl
  have l3 : tsA.length = 9 := rfl
  obtain ⟨fs, e1, q0, q5, q6, q7, b5, b6, b7, qS⟩ : ∃ fs, evCode ⟨Tryd.prog, E.esc 12, n⟩ (ev Tryd.prog E n) (E.ps 12) n sa12 ⟨argsA [.int .i64 p], fun _ => (0, []), 0, S⟩ = some (.norm, fs) ∧ fs.t 0 = .int .i64 (clampN p) ∧
      fs.t 5 = .loc n 5 5 0 ∧ fs.t 6 = .loc n 6 8 0 ∧ fs.t 7 = .loc n 7 11 0 ∧ fs.b 5 = (5, ksA) ∧ fs.b 6 = (8, wsA) ∧ fs.b 7 = (11, tsA) ∧ fs.S = S := by
    have d1 : List.drop 9 ksA = [] := rfl
    have d2 : List.drop 9 wsA = [] := rfl
    have d3 : List.drop 9 tsA = [] := rfl
    generalize ksA = kk at *
    generalize wsA = ww at *
    generalize tsA = tt at *
    by_cases hp : p < 0
    · have hc : clampN p = 0 := by simp [clampN, hp]
      rw [hc]
      refine ⟨_, by
        simp (disch := first | (simp only [List.length_append, List.length_cons, List.length_nil]; omega) | (simp; done) | assumption) [AV.cells?, AV.isCell, -evBuild, -AV.cells?, cq_int, cq_str, sa12, cutC, bodyOf, Tryd.f12, E_esc, z53, z54, h1, h2, h3, a1, a2, a3', l1, l2, l3, d1, d2, d3, c53, c54, i53, i54, bq3, hp]
        rfl, by simp [upd, putA], by simp [upd, putA], by simp [upd, putA], by simp [upd, putA], by simp [upd], by simp [upd], by simp [upd], rfl⟩
    · by_cases hq : 8 < p
      · have hc : clampN p = 0 := by simp [clampN, hq]
        rw [hc]
        refine ⟨_, by
          simp (disch := first | (simp only [List.length_append, List.length_cons, List.length_nil]; omega) | (simp; done) | assumption) [AV.cells?, AV.isCell, -evBuild, -AV.cells?, cq_int, cq_str, sa12, cutC, bodyOf, Tryd.f12, E_esc, z53, z54, h1, h2, h3, a1, a2, a3', l1, l2, l3, d1, d2, d3, c53, c54, i53, i54, bq3, hp, hq]
          rfl, by simp [upd, putA], by simp [upd, putA], by simp [upd, putA], by simp [upd, putA], by simp [upd], by simp [upd], by simp [upd], rfl⟩
      · have hc : ((clampN p : Nat) : Int) = p := by simp [clampN, hp, hq]; omega
        rw [hc]
        refine ⟨_, by
          simp (disch := first | (simp only [List.length_append, List.length_cons, List.length_nil]; omega) | (simp; done) | assumption) [AV.cells?, AV.isCell, -evBuild, -AV.cells?, cq_int, cq_str, sa12, cutC, bodyOf, Tryd.f12, E_esc, z53, z54, h1, h2, h3, a1, a2, a3', l1, l2, l3, d1, d2, d3, c53, c54, i53, i54, bq3, hp, hq]
          rfl, by simp [upd, putA, argsA], by simp [upd, putA], by simp [upd, putA], by simp [upd, putA], by simp [upd], by simp [upd], by simp [upd], rfl⟩
  have hcl := clamp_lt p
  generalize clampN p = i at *
  have g1 : ∃ a, ksA.drop i = .int .i64 (sgK i) :: a := by
    rcases lt9 hcl with rfl | rfl | rfl | rfl | rfl | rfl | rfl | rfl | rfl <;> exact ⟨_, rfl⟩
  have g2 : ∃ a, wsA.drop i = .str (sgW i) :: a := by
    rcases lt9 hcl with rfl | rfl | rfl | rfl | rfl | rfl | rfl | rfl | rfl <;> exact ⟨_, rfl⟩
  have g3 : ∃ a, tsA.drop i = .int .i64 (sgT i) :: a := by
    rcases lt9 hcl with rfl | rfl | rfl | rfl | rfl | rfl | rfl | rfl | rfl <;> exact ⟨_, rfl⟩
  obtain ⟨r1, g1⟩ := g1
  obtain ⟨r2, g2⟩ := g2
  obtain ⟨r3, g3⟩ := g3
  have hi : (i : Int) < 9 := by omega
  obtain ⟨t, b, c, S'⟩ := fs
  simp only at q0 q5 q6 q7 b5 b6 b7 qS
  subst qS
  have hf : finish S' (.tup [.str (sgW i), .int .i64 (sgK i), .int .i64 (sgT i)]) S' = some (.tup [.str (sgW i), .int .i64 (sgK i), .int .i64 (sgT i)], S') := finish_same rfl rfl rfl rfl rfl
  have body : Tryd.f12.body = some (.seq (cutC (bodyOf Tryd.f12) [0]) (.seq (cutC (bodyOf Tryd.f12) [1, 0]) (.seq (cutC (bodyOf Tryd.f12) [1, 1, 0]) (.seq (cutC (bodyOf Tryd.f12) [1, 1, 1, 0]) (.seq (cutC (bodyOf Tryd.f12) [1, 1, 1, 1, 0]) sb12))))) := rfl
  have hix : ∀ d v l q, arrQ Tryd.prog q = some (9, l) → (Tryd.prog.info? l).isSome = true → Tryd.prog.cellsOf l = 1 → evIndexAddr Tryd.prog q (.loc n d v 0) (.int .i64 (i : Int)) = some (.loc n d v i) := fun d v l q e1 e2 e3 => by
    simp [evIndexAddr, e1, e3, hi]
    exact Option.isSome_iff_ne_none.1 e2
  have x1 := hix 5 5 3 53 q53 i3 c3
  have x2 := hix 6 8 9 54 q54 i9 c9
  have x3 := hix 7 11 3 53 q53 i3 c3
  rw [ev_enter (n := n) (show E.ok 12 = true from rfl) Tryd.func12 body (Nat.le_of_ble_eq_true rfl) (by decide +kernel)]
  unfold sa12 at e1
  simp only [evCode_assoc] at e1 ⊢
  generalize sgW i = wi at *
  generalize sgK i = ki at *
  generalize sgT i = ti at *
  obtain ⟨fs0, k1, k2⟩ : ∃ fs0, evCode ⟨Tryd.prog, E.esc 12, n⟩ (ev Tryd.prog E n) (E.ps 12) n sb12 ⟨t, b, c, S'⟩ = some (.ret, fs0) ∧ fs0.t 2 = .str wi ∧ fs0.t 3 = .int .i64 ki ∧ fs0.t 4 = .int .i64 ti ∧ fs0.S = S' := by
    refine ⟨_, by
      simp (disch := first | (simp only [List.length_append, List.length_cons, List.length_nil]; omega) | (simp; done) | assumption) [AV.cells?, AV.isCell, -evBuild, -AV.cells?, -evIndexAddr, cq_int, cq_str, sb12, cutC, bodyOf, Tryd.f12, E_esc, q0, q5, q6, q7, b5, b6, b7, x1, x2, x3, g1, g2, g3, k3, c3, a3, k9, c9, a9, hps]
      rfl, by simp [upd, putA], by simp [upd, putA], by simp [upd, putA], rfl⟩
  obtain ⟨k2, k3', k4, k5⟩ := k2
  rw [evCode_seq, e1, seqK_norm, k1]
  obtain ⟨t0, b0, c0, S0⟩ := fs0
  simp only at k2 k3' k4 k5
  subst k5
  have hrs : Tryd.f12.results.toList = [.tmp 2, .tmp 3, .tmp 4] := rfl
  simp [fromBody, hrs, resA, k2, k3', k4, oneOf, finRet, hf]
end Go.Proofs.YtemggoaefohliaaDoor.PS

/- ParseBinds, the law. Condition: the world outside is closed. -/
namespace Go.Proofs.YtemggoaefohliaaDoor.PS
set_option linter.unusedVariables false
set_option linter.unusedSimpArgs false
open Go AE EX PT NF LX
set_option maxRecDepth 100000

theorem bS3 (x y z : X) : evBuildSlice Tryd.prog 23 3 [(0, x.emb), (1, y.emb), (2, z.emb)] = some (.slice (embL [x, y, z]) .clip) := by
  have hx := xcells x
  have hy := xcells y
  have hz := xcells z
  have lx := xlen x
  have ly := xlen y
  have lz := xlen z
  have ex := xemb x
  have ey := xemb y
  have ez := xemb z
  simp [evBuildSlice, sq22, z24, c24, a24, evElems, hx, hy, hz, lx, ly, lz, ex, ey, ez, embL]
theorem iaX {l : List X} {k : Tok} {i : Nat} {x : X} (h : l[i]? = some x) : evIndexAddr Tryd.prog 23 (.slice (embL l) k) (.int .i64 (i : Int)) = some (.ref x.cells) := by
  have hc := xcells x
  have hl := xlen x
  have hi : (Tryd.prog.info? 25).isSome = true := i24
  have hn : nth (embL l) (i : Int) = some x.emb := by
    simp only [nth, Int.natCast_nonneg, if_true, Int.toNat_natCast]
    clear hi hc hl
    induction l generalizing i with
    | nil => simp at h
    | cons y l ih =>
      cases i with
      | zero => simp at h; subst h; rfl
      | succ i => simpa [embL] using ih (by simpa using h)
  simp [evIndexAddr, sq22, hn, hc, hl, c24, -nth]
  exact Option.isSome_iff_ne_none.1 hi

theorem nb_len {w : List UInt8} (h : nameB w = true) : w.length ≤ 16 := by
  cases w with
  | nil => simp
  | cons c r => simp only [nameB, Bool.and_eq_true, decide_eq_true_eq] at h; simpa using h.1.1

noncomputable def b5a : Code := .seq (cutC (bodyOf Tryd.f5) [0]) (.seq (cutC (bodyOf Tryd.f5) [1, 0]) (cutC (bodyOf Tryd.f5) [1, 1, 0]))
set_option maxHeartbeats 16000000 in
theorem binds_names (n : Nat) (x y z : List UInt8) (p q : Int) (hx : x.length ≤ 1048576) (hy : y.length ≤ 1048576) (hz : z.length ≤ 1048576) (hn : 1200001 ≤ n) (h : ¬ (nameB x = true ∧ nameB y = true ∧ nameB z = true)) :
    ev Tryd.prog E (n + 2) 5 [.str x, .str y, .str z, .int .i64 p, .int .i64 q] st0 = some (.ret (.bool true), st0) := by
  have hw : lowB st0.H.length st0.T.length st0.H = true := rfl
  have hal := ev_alive (n - 1) st0 hw (by omega)
  rw [show n - 1 + 2 = n + 1 by omega] at hal
  have nx := ev_lName (n - 1) x hx (by omega) st0
  have ny := ev_lName (n - 1) y hy (by omega) st0
  have nz := ev_lName (n - 1) z hz (by omega) st0
  rw [show n - 1 + 2 = n + 1 by omega] at nx ny nz
  rw [show n + 2 = (n + 1) + 1 from rfl, ev_enter (n := n + 1) (show E.ok 5 = true from rfl) Tryd.func5 (fn := Tryd.f5) rfl (Nat.le_of_ble_eq_true rfl) (by decide +kernel)]
  cases h1 : nameB x
  · simp (disch := first | (simp only [List.length_append, List.length_cons, List.length_nil]; omega) | (simp; done) | assumption) [AV.cells?, AV.isCell, Tryd.f5, E_esc, hal, nx, h1]
  · cases h2 : nameB y
    · simp (disch := first | (simp only [List.length_append, List.length_cons, List.length_nil]; omega) | (simp; done) | assumption) [AV.cells?, AV.isCell, Tryd.f5, E_esc, hal, nx, ny, h1, h2]
    · cases h3 : nameB z
      · simp (disch := first | (simp only [List.length_append, List.length_cons, List.length_nil]; omega) | (simp; done) | assumption) [AV.cells?, AV.isCell, Tryd.f5, E_esc, hal, nx, ny, nz, h1, h2, h3]
      · exact absurd ⟨h1, h2, h3⟩ h

set_option maxHeartbeats 16000000 in
theorem binds_both (n : Nat) (x y z : List UInt8) (p q : Int) (hx : nameB x = true) (hy : nameB y = true) (hz : nameB z = true) (hn : 1200001 ≤ n) (h : sgT (clampN p) = 2 ∧ sgT (clampN q) = 2) :
    ev Tryd.prog E (n + 2) 5 [.str x, .str y, .str z, .int .i64 p, .int .i64 q] st0 = some (.ret (.bool true), st0) := by
  have hw : lowB st0.H.length st0.T.length st0.H = true := rfl
  have hal := ev_alive (n - 1) st0 hw (by omega)
  rw [show n - 1 + 2 = n + 1 by omega] at hal
  have lx := nb_len hx
  have ly := nb_len hy
  have lz := nb_len hz
  have nx := ev_lName (n - 1) x (by omega) (by omega) st0
  have ny := ev_lName (n - 1) y (by omega) (by omega) st0
  have nz := ev_lName (n - 1) z (by omega) (by omega) st0
  rw [show n - 1 + 2 = n + 1 by omega] at nx ny nz
  have s1 := ev_sign n p st0
  have s2 := ev_sign n q st0
  have li := sgW_len (clamp_lt p)
  have lj := sgW_len (clamp_lt q)
  have hR := (expr_bind hx hy hz (clamp_lt p) (clamp_lt q)).2 h
  have hlen : (bindT x y z (clampN p) (clampN q)).length ≤ 4096 := by simp [bindT, frontT]; omega
  have hlf : (frontT x y (clampN p)).length ≤ 4096 := by simp [frontT]; omega
  obtain ⟨id, S', i1, i2, i3, i4⟩ := (ev_Expr n st0 (bindT x y z (clampN p) (clampN q)) (by omega) hw (by omega)).2 _ _ _ hR
  have hC := ev_Code (n - 1) S' id _ _ _ i3
  have hP := ev_Place (n - 1) S' id _ _ _ i3
  rw [show n - 1 + 2 = n + 1 by omega] at hC hP
  have hf := fin_grow i4 (.bool true) rfl rfl rfl
  have hz25 : zeroQ Tryd.prog 25 = some z6 := by kernel_rfl
  have zc := xcells zX
  have zl := xlen zX
  have zd : List.drop 6 zX.cells = [] := rfl
  have l6 := z6_len
  have hb30 := tb30
  have hT1 := h.1
  have hT2 := h.2
  rw [hT1] at s1
  rw [hT2] at s2
  simp only [frontT, bindT] at i2 hP
  simp only [frontT, bindT, List.length_append, List.length_cons, List.length_nil] at hlen hlf
  clear hR i1 i3 i4 h hT1 hT2
  generalize sgW (clampN p) = wi at *
  generalize sgW (clampN q) = wj at *
  generalize sgK (clampN p) = ki at *
  generalize sgK (clampN q) = kj at *
  generalize zX.cells = zcs at *
  generalize zX.emb = zem at *
  generalize z6 = zz at *
  have i2' : ev Tryd.prog E (n + 1) 7 [.str (115 :: 46 :: (x ++ [32] ++ wi ++ [32, 111, 46] ++ y ++ [32] ++ wj ++ [32, 115, 46] ++ z))] st0 = some (.ret (.tup [zem, .iface 55 (.ptr id 0)]), S') := i2
  have hP' : ev Tryd.prog E (n + 1) 13 [.iface 55 (.ptr id 0)] S' = some (.ret (.int .i64 ((115 :: 46 :: (x ++ [32] ++ wi ++ [32, 111, 46] ++ y ++ [32])).length : Nat)), S') := hP
  clear i2 hP
  rw [show n + 2 = (n + 1) + 1 from rfl, ev_enter (n := n + 1) (show E.ok 5 = true from rfl) Tryd.func5 (fn := Tryd.f5) rfl (Nat.le_of_ble_eq_true rfl) (by decide +kernel)]
  simp (disch := first | (simp only [List.length_append, List.length_cons, List.length_nil]; omega) | (simp; done) | assumption) [AV.cells?, AV.isCell, -List.cons_append, -List.nil_append, -List.append_assoc, -List.length_append, -AV.cells?, cq_int, cq_nilif, cq_iface, -evBuild, -evBuildSlice, Tryd.f5, E_esc, hz25, hal, nx, ny, nz, hx, hy, hz, s1, s2, i2', hC, hP', hf, sq9, bq3, bq9, hb30, zc, zl, zd, l6, c24, a24, k24, i24, ofC]
end Go.Proofs.YtemggoaefohliaaDoor.PS

/- ParseBinds, the law, whole. Condition: the world outside is closed. -/
namespace Go.Proofs.YtemggoaefohliaaDoor.PS
set_option linter.unusedVariables false
set_option linter.unusedSimpArgs false
open Go AE EX PT NF LX
set_option maxRecDepth 100000

set_option maxHeartbeats 16000000 in
theorem binds_tight (n : Nat) (x y z : List UInt8) (p q : Int) (hx : nameB x = true) (hy : nameB y = true) (hz : nameB z = true) (hn : 1200001 ≤ n) (h : ¬ (sgT (clampN p) = 2 ∧ sgT (clampN q) = 2)) :
    ev Tryd.prog E (n + 2) 5 [.str x, .str y, .str z, .int .i64 p, .int .i64 q] st0 = some (.ret (.bool true), st0) := by
  have hw : lowB st0.H.length st0.T.length st0.H = true := rfl
  have hal := ev_alive (n - 1) st0 hw (by omega)
  rw [show n - 1 + 2 = n + 1 by omega] at hal
  have lx := nb_len hx
  have ly := nb_len hy
  have lz := nb_len hz
  have nx := ev_lName (n - 1) x (by omega) (by omega) st0
  have ny := ev_lName (n - 1) y (by omega) (by omega) st0
  have nz := ev_lName (n - 1) z (by omega) (by omega) st0
  rw [show n - 1 + 2 = n + 1 by omega] at nx ny nz
  have s1 := ev_sign n p st0
  have s2 := ev_sign n q st0
  have li := sgW_len (clamp_lt p)
  have lj := sgW_len (clamp_lt q)
  have hR := (expr_bind hx hy hz (clamp_lt p) (clamp_lt q)).1 h
  have hlen : (bindT x y z (clampN p) (clampN q)).length ≤ 4096 := by simp [bindT, frontT]; omega
  have hlf : (frontT x y (clampN p)).length ≤ 4096 := by simp [frontT]; omega
  have i2 := (ev_Expr n st0 (bindT x y z (clampN p) (clampN q)) (by omega) hw (by omega)).1 _ hR
  have hsz : (bindX x y z (clampN p) (clampN q)).size ≤ 1048576 := by
    have := (expr_parts hR).choose_spec.choose_spec.2.2.2.2.2
    have := size7 (bindX x y z (clampN p) (clampN q))
    omega
  have hsame := ev_same _ (bindX x y z (clampN p) (clampN q)) (bindX x y z (clampN p) (clampN q)) (Nat.le_refl _) hsz hsz (n + 1) (by omega) st0
  rw [same_refl] at hsame
  have hz25 : zeroQ Tryd.prog 25 = some z6 := by kernel_rfl
  have l6 := z6_len
  have zzd : List.drop 6 z6 = [] := rfl
  have hb30 := tb30
  have hti := tf27
  have ba : evBuild Tryd.prog 25 [(0, .int .i64 5), (1, .str x)] = some (attrS x).emb := bX1 5 x
  have bb : evBuild Tryd.prog 25 [(0, .int .i64 6), (1, .str y)] = some (attrO y).emb := bX1 6 y
  have bc : evBuild Tryd.prog 25 [(0, .int .i64 5), (1, .str z)] = some (attrS z).emb := bX1 5 z
  have bl := bS3 (attrS x) (attrO y) (attrS z)
  have j0 : evIndexAddr Tryd.prog 23 (.slice (embL [attrS x, attrO y, attrS z]) .clip) (.int .i64 0) = some (.ref (attrS x).cells) := iaX (l := [attrS x, attrO y, attrS z]) (k := .clip) (i := 0) rfl
  have j1 : evIndexAddr Tryd.prog 23 (.slice (embL [attrS x, attrO y, attrS z]) .clip) (.int .i64 1) = some (.ref (attrO y).cells) := iaX (l := [attrS x, attrO y, attrS z]) (k := .clip) (i := 1) rfl
  have j2 : evIndexAddr Tryd.prog 23 (.slice (embL [attrS x, attrO y, attrS z]) .clip) (.int .i64 2) = some (.ref (attrS z).cells) := iaX (l := [attrS x, attrO y, attrS z]) (k := .clip) (i := 2) rfl
  have ac := xcells (attrS x)
  have al := xlen (attrS x)
  have at' := xtake (attrS x)
  have ae := xemb (attrS x)
  have bc' := xcells (attrO y)
  have bl' := xlen (attrO y)
  have bt' := xtake (attrO y)
  have be := xemb (attrO y)
  have cc' := xcells (attrS z)
  have cl' := xlen (attrS z)
  have ct' := xtake (attrS z)
  have ce := xemb (attrS z)
  have p15 : E.ps 5 15 = [(3, 6), (3, 9), (6, 9)] := rfl
  have p16 : E.ps 5 16 = [(0, 2), (0, 5), (2, 5)] := rfl
  have p17 : E.ps 5 17 = [(3, 6), (3, 9), (6, 9)] := rfl
  have p18 : E.ps 5 18 = [(0, 4), (0, 5), (4, 5)] := rfl
  have xc := xcells (bindX x y z (clampN p) (clampN q))
  have xl := xlen (bindX x y z (clampN p) (clampN q))
  have xt := xtake (bindX x y z (clampN p) (clampN q))
  have xe := xemb (bindX x y z (clampN p) (clampN q))
  have xd : List.drop 6 (bindX x y z (clampN p) (clampN q)).cells = [] := List.drop_eq_nil_of_le (by rw [xl]; omega)
  have hboth : ¬ (sgT (clampN p) = 2) ∨ ¬ (sgT (clampN q) = 2) := by
    rcases Classical.em (sgT (clampN p) = 2) with h1 | h1
    · exact .inr fun h2 => h ⟨h1, h2⟩
    · exact .inl h1
  simp only [frontT, bindT] at i2
  simp only [frontT, bindT, List.length_append, List.length_cons, List.length_nil] at hlen hlf
  by_cases hge : sgT (clampN q) ≤ sgT (clampN p)
  · have hX : bindX x y z (clampN p) (clampN q) = bothX (sgK (clampN q)) (bothX (sgK (clampN p)) (attrS x) (attrO y)) (attrS z) := if_pos hge
    have w1 := bS2 (attrS x) (attrO y)
    have w2 : evBuild Tryd.prog 25 [(0, .int .i64 (sgK (clampN p))), (5, .slice (embL [attrS x, attrO y]) .clip)] = some (bothX (sgK (clampN p)) (attrS x) (attrO y)).emb := bX5 _ _
    have w3 := bS2 (bothX (sgK (clampN p)) (attrS x) (attrO y)) (attrS z)
    have w4 : evBuild Tryd.prog 25 [(0, .int .i64 (sgK (clampN q))), (5, .slice (embL [bothX (sgK (clampN p)) (attrS x) (attrO y), attrS z]) .clip)] = some (bindX x y z (clampN p) (clampN q)).emb := by rw [hX]; exact bX5 _ _
    have fc := xcells (bothX (sgK (clampN p)) (attrS x) (attrO y))
    have fl := xlen (bothX (sgK (clampN p)) (attrS x) (attrO y))
    have ft := xtake (bothX (sgK (clampN p)) (attrS x) (attrO y))
    have fe := xemb (bothX (sgK (clampN p)) (attrS x) (attrO y))
    have fd : List.drop 6 (bothX (sgK (clampN p)) (attrS x) (attrO y)).cells = [] := List.drop_eq_nil_of_le (by rw [fl]; omega)
    clear hX hR h hsz
    generalize embL [bothX (sgK (clampN p)) (attrS x) (attrO y), attrS z] = e4 at *
    generalize embL [attrS x, attrO y] = e2 at *
    generalize embL [attrS x, attrO y, attrS z] = e3 at *
    generalize bindX x y z (clampN p) (clampN q) = R at *
    generalize bothX (sgK (clampN p)) (attrS x) (attrO y) = F at *
    generalize sgW (clampN p) = wi at *
    generalize sgW (clampN q) = wj at *
    generalize sgK (clampN p) = ki at *
    generalize sgK (clampN q) = kj at *
    generalize sgT (clampN p) = ti at *
    generalize sgT (clampN q) = tj at *
    generalize attrS x = A at *
    generalize attrO y = B at *
    generalize attrS z = C at *
    generalize A.cells = Ac at *
    generalize A.emb = Ae at *
    generalize B.cells = Bc at *
    generalize B.emb = Be at *
    generalize C.cells = Cc at *
    generalize C.emb = Ce at *
    generalize F.cells = Fc at *
    generalize F.emb = Fe at *
    generalize R.cells = Rc at *
    generalize R.emb = Re at *
    generalize z6 = zz at *
    have i2' : ev Tryd.prog E (n + 1) 7 [.str (115 :: 46 :: (x ++ [32] ++ wi ++ [32, 111, 46] ++ y ++ [32] ++ wj ++ [32, 115, 46] ++ z))] st0 = some (.ret (.tup [Re, .nilif]), st0) := i2
    clear i2
    rw [show n + 2 = (n + 1) + 1 from rfl, ev_enter (n := n + 1) (show E.ok 5 = true from rfl) Tryd.func5 (fn := Tryd.f5) rfl (Nat.le_of_ble_eq_true rfl) (by decide +kernel)]
    rcases Classical.em (ti = 2) with h1 | h1
    · have h2 : ¬ tj = 2 := hboth.resolve_left (fun h => h h1)
      have hge2 : tj ≤ 2 := by rw [← h1]; exact hge
      simp (disch := first | (simp only [List.length_append, List.length_cons, List.length_nil]; omega) | (simp; done) | assumption) [AV.cells?, AV.isCell, -List.cons_append, -List.nil_append, -List.append_assoc, -List.length_append, -AV.cells?, cq_int, cq_nilif, cq_iface, -evBuild, -evBuildSlice, -evIndexAddr, Tryd.f5, E_esc, hz25, hal, nx, ny, nz, hx, hy, hz, s1, s2, i2', ba, bb, bc, bl, j0, j1, j2, w1, w2, w3, w4, ac, al, at', ae, bc', bl', bt', be, cc', cl', ct', ce, fc, fl, ft, fe, fd, xc, xl, xt, xe, xd, p15, p16, h1, h2, hge, hge2, hsame, sq9, bq3, bq9, hb30, l6, zzd, List.append_nil, c24, a24, k24, i24, ofC]
    · simp (disch := first | (simp only [List.length_append, List.length_cons, List.length_nil]; omega) | (simp; done) | assumption) [AV.cells?, AV.isCell, -List.cons_append, -List.nil_append, -List.append_assoc, -List.length_append, -AV.cells?, cq_int, cq_nilif, cq_iface, -evBuild, -evBuildSlice, -evIndexAddr, Tryd.f5, E_esc, hz25, hal, nx, ny, nz, hx, hy, hz, s1, s2, i2', ba, bb, bc, bl, j0, j1, j2, w1, w2, w3, w4, ac, al, at', ae, bc', bl', bt', be, cc', cl', ct', ce, fc, fl, ft, fe, fd, xc, xl, xt, xe, xd, p15, p16, h1, hge, hsame, sq9, bq3, bq9, hb30, l6, zzd, List.append_nil, c24, a24, k24, i24, ofC]
  · have hX : bindX x y z (clampN p) (clampN q) = bothX (sgK (clampN p)) (attrS x) (bothX (sgK (clampN q)) (attrO y) (attrS z)) := if_neg hge
    have w1 := bS2 (attrO y) (attrS z)
    have w2 : evBuild Tryd.prog 25 [(0, .int .i64 (sgK (clampN q))), (5, .slice (embL [attrO y, attrS z]) .clip)] = some (bothX (sgK (clampN q)) (attrO y) (attrS z)).emb := bX5 _ _
    have w3 := bS2 (attrS x) (bothX (sgK (clampN q)) (attrO y) (attrS z))
    have w4 : evBuild Tryd.prog 25 [(0, .int .i64 (sgK (clampN p))), (5, .slice (embL [attrS x, bothX (sgK (clampN q)) (attrO y) (attrS z)]) .clip)] = some (bindX x y z (clampN p) (clampN q)).emb := by rw [hX]; exact bX5 _ _
    have fc := xcells (bothX (sgK (clampN q)) (attrO y) (attrS z))
    have fl := xlen (bothX (sgK (clampN q)) (attrO y) (attrS z))
    have ft := xtake (bothX (sgK (clampN q)) (attrO y) (attrS z))
    have fe := xemb (bothX (sgK (clampN q)) (attrO y) (attrS z))
    have fd : List.drop 6 (bothX (sgK (clampN q)) (attrO y) (attrS z)).cells = [] := List.drop_eq_nil_of_le (by rw [fl]; omega)
    clear hX hR h hsz
    generalize embL [attrS x, bothX (sgK (clampN q)) (attrO y) (attrS z)] = e4 at *
    generalize embL [attrO y, attrS z] = e2 at *
    generalize embL [attrS x, attrO y, attrS z] = e3 at *
    generalize bindX x y z (clampN p) (clampN q) = R at *
    generalize bothX (sgK (clampN q)) (attrO y) (attrS z) = F at *
    generalize sgW (clampN p) = wi at *
    generalize sgW (clampN q) = wj at *
    generalize sgK (clampN p) = ki at *
    generalize sgK (clampN q) = kj at *
    generalize sgT (clampN p) = ti at *
    generalize sgT (clampN q) = tj at *
    generalize attrS x = A at *
    generalize attrO y = B at *
    generalize attrS z = C at *
    generalize A.cells = Ac at *
    generalize A.emb = Ae at *
    generalize B.cells = Bc at *
    generalize B.emb = Be at *
    generalize C.cells = Cc at *
    generalize C.emb = Ce at *
    generalize F.cells = Fc at *
    generalize F.emb = Fe at *
    generalize R.cells = Rc at *
    generalize R.emb = Re at *
    generalize z6 = zz at *
    have i2' : ev Tryd.prog E (n + 1) 7 [.str (115 :: 46 :: (x ++ [32] ++ wi ++ [32, 111, 46] ++ y ++ [32] ++ wj ++ [32, 115, 46] ++ z))] st0 = some (.ret (.tup [Re, .nilif]), st0) := i2
    clear i2
    rw [show n + 2 = (n + 1) + 1 from rfl, ev_enter (n := n + 1) (show E.ok 5 = true from rfl) Tryd.func5 (fn := Tryd.f5) rfl (Nat.le_of_ble_eq_true rfl) (by decide +kernel)]
    rcases Classical.em (ti = 2) with h1 | h1
    · have h2 : ¬ tj = 2 := hboth.resolve_left (fun h => h h1)
      have hge2 : ¬ tj ≤ 2 := by rw [← h1]; exact hge
      simp (disch := first | (simp only [List.length_append, List.length_cons, List.length_nil]; omega) | (simp; done) | assumption) [AV.cells?, AV.isCell, -List.cons_append, -List.nil_append, -List.append_assoc, -List.length_append, -AV.cells?, cq_int, cq_nilif, cq_iface, -evBuild, -evBuildSlice, -evIndexAddr, Tryd.f5, E_esc, hz25, hal, nx, ny, nz, hx, hy, hz, s1, s2, i2', ba, bb, bc, bl, j0, j1, j2, w1, w2, w3, w4, ac, al, at', ae, bc', bl', bt', be, cc', cl', ct', ce, fc, fl, ft, fe, fd, xc, xl, xt, xe, xd, p17, p18, h1, h2, hge, hge2, hsame, sq9, bq3, bq9, hb30, l6, zzd, List.append_nil, c24, a24, k24, i24, ofC]
    · simp (disch := first | (simp only [List.length_append, List.length_cons, List.length_nil]; omega) | (simp; done) | assumption) [AV.cells?, AV.isCell, -List.cons_append, -List.nil_append, -List.append_assoc, -List.length_append, -AV.cells?, cq_int, cq_nilif, cq_iface, -evBuild, -evBuildSlice, -evIndexAddr, Tryd.f5, E_esc, hz25, hal, nx, ny, nz, hx, hy, hz, s1, s2, i2', ba, bb, bc, bl, j0, j1, j2, w1, w2, w3, w4, ac, al, at', ae, bc', bl', bt', be, cc', cl', ct', ce, fc, fl, ft, fe, fd, xc, xl, xt, xe, xd, p17, p18, h1, hge, hsame, sq9, bq3, bq9, hb30, l6, zzd, List.append_nil, c24, a24, k24, i24, ofC]
/-- ParseBinds: true. -/
theorem law_ParseBinds (n : Nat) (x y z : List UInt8) (p q : Int) (hx : x.length ≤ 1048576) (hy : y.length ≤ 1048576) (hz : z.length ≤ 1048576) (_ : in64 p) (_ : in64 q) (hn : 1200001 ≤ n) :
    ev Tryd.prog E (n + 2) 5 [.str x, .str y, .str z, .int .i64 p, .int .i64 q] st0 = some (.ret (.bool true), st0) := by
  by_cases h : nameB x = true ∧ nameB y = true ∧ nameB z = true
  · by_cases h2 : sgT (clampN p) = 2 ∧ sgT (clampN q) = 2
    · exact binds_both n x y z p q h.1 h.2.1 h.2.2 hn h2
    · exact binds_tight n x y z p q h.1 h.2.1 h.2.2 hn h2
  · exact binds_names n x y z p q hx hy hz hn h
end Go.Proofs.YtemggoaefohliaaDoor.PS

