/- Joined: DqA, DqB, DqC, DqD, DqE. No condition beyond those of its lemmas. -/
import Derived.Test.YtemggoaefohliaaDoorPsA
import Derived.Test.YtemggoaefohliaaDoorLxA
import Derived.Test.YtemggoaefohliaaDoorPsC
/- How great what the parser builds can be: by the words it has passed. No condition. -/
namespace Go.Proofs.YtemggoaefohliaaDoor.PS
set_option linter.unusedVariables false
set_option linter.unusedSimpArgs false
open Go AE EX PT NF LX
set_option maxRecDepth 100000

def wT (t : Tk) : Nat := 14 + t.s.length
def Wt (l : List Tk) (i : Nat) : Nat := ((l.take i).map wT).sum
theorem Wt_succ {l : List Tk} {p : Nat} (h : p < l.length) : Wt l (p + 1) = Wt l p + wT (hereT l p) := by
  have hg : l[p]? = some l[p] := List.getElem?_eq_getElem h
  have hh : hereT l p = l[p] := by simp [hereT, hg]
  rw [hh]
  unfold Wt
  rw [List.take_add_one, hg]
  simp only [Option.toList_some, List.map_append, List.map_cons, List.map_nil, List.sum_append_nat, List.sum_cons, List.sum_nil]
  omega
theorem Wt_all (l : List Tk) (i : Nat) : Wt l i ≤ (l.map wT).sum := by
  have : (l.map wT).sum = ((l.take i).map wT).sum + ((l.drop i).map wT).sum := by
    rw [← List.sum_append, ← List.map_append, List.take_append_drop]
  unfold Wt; omega
/-- a word's weight, at the least -/
def Wok (h : Nat → Tk) (Wf : Nat → Nat) : Prop := ∀ p, (h p).k ≠ 5 → Wf p + 14 + (h p).s.length ≤ Wf (p + 1)
theorem Wok_l (l : List Tk) : Wok (hereT l) (Wt l) := fun p hp => by
  rw [Wt_succ (here_lt hp)]; unfold wT; omega
/-- nothing is passed behind a word that ends all -/
theorem Wok_end {l : List Tk} {m : Nat} (hm : (hereT l m).k = 5) (hl : l.length ≤ m + 1) : Wok (hereT l) (fun i => if i ≤ m then Wt l i else 0) := fun p hp => by
  have := Wok_l l p hp
  have h1 := here_lt hp
  have h2 : p ≠ m := fun e => hp (by rw [e]; exact hm)
  have e1 : p ≤ m := by omega
  have e2 : p + 1 ≤ m := by omega
  simp only [e1, e2, if_true]
  exact this
/-- so much at the most -/
def Bd (Wf : Nat → Nat) (sub : Nat → PR X) : Prop := ∀ p x r, sub p = .ok (x, r) → x.bulk + Wf p ≤ Wf r

section
variable {h0 : Nat → Tk} {Wf : Nat → Nat} (hW : Wok h0 Wf)
include hW
theorem is_c {p : Nat} {q : List UInt8} (h : isB h0 p q = true) : Wf p + 14 ≤ Wf (p + 1) := by
  simp only [isB, Bool.and_eq_true, beq_iff_eq] at h
  have := hW p (by rw [h.1]; exact kindOf_ne q)
  omega
theorem need_c {p : Nat} {q : List UInt8} {u : Unit} {r : Nat} (h : needP h0 q p = .ok (u, r)) : Wf p + 14 ≤ Wf r := by
  unfold needP at h
  split at h
  · rename_i hb; cases h; exact is_c hW hb
  · cases h
theorem take_c {p : Nat} {k : Int} {t : Tk} {r : Nat} (hk : k ≠ 5) (h : takeP h0 k p = .ok (t, r)) : Wf p + 14 + t.s.length ≤ Wf r := by
  unfold takeP at h
  split at h
  · rename_i hb
    cases h
    exact hW p (by rw [hb]; exact hk)
  · cases h
theorem here_c {p : Nat} {k : Int} (hk : k ≠ 5) (h : (h0 p).k = k) : Wf p + 14 + (h0 p).s.length ≤ Wf (p + 1) := hW p (by rw [h]; exact hk)
omit hW in
theorem leaf_b (k : Int) (s : List UInt8) (n hi : Int) : (leafX k s n hi).bulk = 7 + s.length := by simp [leafX, X.bulk, bulkL]
omit hW in
theorem both_b (k : Int) (x y : X) : (bothX k x y).bulk = 7 + (x.bulk + y.bulk) := by simp [bothX, X.bulk, bulkL]
omit hW in
theorem one_b (k : Int) (x : X) : (oneX k x).bulk = 7 + x.bulk := by simp [oneX, X.bulk, bulkL]
omit hW in
theorem mk1_b (k lo hi : Int) (b : Bool) (x : X) : (X.mk k [] 0 lo hi b [x]).bulk = 7 + x.bulk := by simp [X.bulk, bulkL]
omit hW in
theorem mk2_b (k lo hi : Int) (b : Bool) (x y : X) : (X.mk k [] 0 lo hi b [x, y]).bulk = 7 + (x.bulk + y.bulk) := by simp [X.bulk, bulkL]

omit hW in
theorem opAt_is {h : Nat → Tk} {p : Nat} {k : Int} : ∀ {ops : List (List UInt8 × Int)}, opAt h p ops = some k → ∃ q, isB h p q = true
  | [], hh => by cases hh
  | (q, k') :: r, hh => by
    rw [opAt] at hh
    split at hh
    · rename_i hb; exact ⟨q, hb⟩
    · exact opAt_is hh
theorem bd_loop {ops : List (List UInt8 × Int)} {sub : Nat → PR X} (hs : Bd Wf sub) : ∀ f e p x r, loopF h0 ops sub f e p = .ok (x, r) → x.bulk + Wf p ≤ e.bulk + Wf r
  | 0, e, p, x, r, h => by cases h
  | f + 1, e, p, x, r, h => by
    rw [loopF] at h
    split at h
    · cases h; omega
    · rename_i k hk
      obtain ⟨v, q, h1, h2⟩ := th_split h
      obtain ⟨w, hw⟩ := opAt_is hk
      have := is_c hW hw
      have := hs _ _ _ h1
      have := bd_loop hs f _ _ _ _ h2
      rw [both_b] at this
      omega
theorem bd_chain {ops : List (List UInt8 × Int)} {sub : Nat → PR X} (hs : Bd Wf sub) (F : Nat) : Bd Wf (chainP h0 F ops sub) := by
  intro p x r h
  obtain ⟨v, q, h1, h2⟩ := th_split h
  have := hs _ _ _ h1
  have := bd_loop hW hs F _ _ _ _ h2
  omega
theorem bd_rel {sub : Nat → PR X} (hs : Bd Wf sub) : Bd Wf (relP h0 sub) := by
  intro p x r h
  obtain ⟨v, q, h1, h2⟩ := th_split h
  have h3 := hs _ _ _ h1
  have key : ∀ {k : Int}, isB h0 q [61] = true ∨ isB h0 q [60] = true ∨ isB h0 q [60, 61] = true ∨ isB h0 q [105, 110] = true → (sub (q + 1)).th (fun y t => .ok (bothX k v y, t)) = .ok (x, r) → x.bulk + Wf p ≤ Wf r := fun hb hh => by
    obtain ⟨y, t, g1, g2⟩ := th_split hh
    cases g2
    have := hs _ _ _ g1
    rw [both_b]
    rcases hb with hb | hb | hb | hb <;> (have := is_c hW hb; omega)
  split at h2
  · rename_i hb; exact key (.inl hb) h2
  · split at h2
    · rename_i hb
      obtain ⟨y, t, g1, g2⟩ := th_split h2
      cases g2
      have := hs _ _ _ g1
      have := is_c hW hb
      rw [one_b, both_b]
      omega
    · split at h2
      · rename_i hb; exact key (.inr (.inl hb)) h2
      · split at h2
        · rename_i hb; exact key (.inr (.inr (.inl hb))) h2
        · split at h2
          · rename_i hb; exact key (.inr (.inr (.inr hb))) h2
          · cases h2; omega
theorem bd_any {one : Nat → PR X} (hs : Bd Wf one) (F : Nat) : Bd Wf (anyP h0 F one) := bd_chain hW (bd_chain hW (bd_rel hW (bd_chain hW (bd_chain hW hs F) F)) F) F
theorem bd_setF : ∀ f ks p x r, setF h0 f ks p = .ok (x, r) → x.bulk + Wf p ≤ 7 + bulkL ks + Wf r
  | 0, ks, p, x, r, h => by cases h
  | f + 1, ks, p, x, r, h => by
    rw [setF] at h
    obtain ⟨t, q, h1, h2⟩ := th_split h
    have := take_c hW (by decide) h1
    have hb : bulkL (ks ++ [leafX 3 t.s 0 0]) = bulkL ks + (7 + t.s.length) := by
      have : ∀ a b : List X, bulkL (a ++ b) = bulkL a + bulkL b := fun a b => by
        induction a with
        | nil => simp [bulkL]
        | cons x a ih => simp [bulkL, ih]; omega
      rw [this]; simp [bulkL, leaf_b]
    split at h2
    · cases h2
    · split at h2
      · rename_i hc
        cases h2
        have := is_c hW hc
        simp only [setX, X.bulk, hb, List.length_nil]
        omega
      · obtain ⟨u, q2, h3, h4⟩ := th_split h2
        have := need_c hW h3
        have := bd_setF f _ _ _ _ h4
        rw [hb] at this
        omega
theorem bd_set (F : Nat) : ∀ p x r, setP h0 F p = .ok (x, r) → x.bulk + Wf p ≤ 7 + Wf r := by
  intro p x r h
  unfold setP at h
  split at h
  · rename_i hb
    cases h
    have := is_c hW hb
    simp [leaf_b]; omega
  · have := bd_setF hW F _ _ _ _ h
    simpa [bulkL] using this
theorem bd_arg {any : Nat → PR X} (ha : Bd Wf any) : ∀ p x r, argP h0 any p = .ok (x, r) → x.bulk + Wf p + 28 ≤ Wf r := by
  intro p x r h
  obtain ⟨_, q, h1, h2⟩ := th_split h
  obtain ⟨v, q2, h3, h4⟩ := th_split h2
  obtain ⟨_, q3, h5, h6⟩ := th_split h4
  cases h6
  have := need_c hW h1
  have := ha _ _ _ h3
  have := need_c hW h5
  omega
theorem bd_signed {one any : Nat → PR X} (ho : Bd Wf one) (ha : Bd Wf any) (F : Nat) : Bd Wf (signedP h0 F one any) := by
  intro p x r h
  unfold signedP at h
  split at h
  · rename_i hb
    obtain ⟨v, q, h1, h2⟩ := th_split h
    cases h2
    have := ho _ _ _ h1
    have := is_c hW hb
    rw [one_b]; omega
  · split at h
    · rename_i hb
      have := bd_set hW F _ _ _ h
      have := is_c hW hb
      omega
    · have := bd_arg hW ha _ _ _ h
      omega
theorem bd_span : ∀ p x r, spanP h0 p = .ok (x, r) → Wf p + 14 ≤ Wf r := by
  intro p x r h
  obtain ⟨_, q, h1, h2⟩ := th_split h
  obtain ⟨t, q2, h3, h4⟩ := th_split h2
  obtain ⟨_, q3, h5, h6⟩ := th_split h4
  have := need_c hW h1
  have := take_c hW (by decide) h3
  have := need_c hW h5
  split at h6
  · rename_i hb
    obtain ⟨_, q4, h7, h8⟩ := th_split h6
    cases h8
    have := is_c hW hb
    have := need_c hW h7
    omega
  · obtain ⟨u, q4, h7, h8⟩ := th_split h6
    have := take_c hW (by decide) h7
    split at h8
    · cases h8
    · obtain ⟨_, q5, h9, h10⟩ := th_split h8
      cases h10
      have := need_c hW h9
      omega
theorem bd_look {any : Nat → PR X} (ha : Bd Wf any) (k : Int) : Bd Wf (lookP h0 k any) := by
  intro p x r h
  obtain ⟨lh, q, h1, h2⟩ := th_split h
  obtain ⟨v, q2, h3, h4⟩ := th_split h2
  cases h4
  have := bd_span hW _ _ _ h1
  have := bd_arg hW ha _ _ _ h3
  rw [mk1_b]; omega
theorem bd_since {any : Nat → PR X} (ha : Bd Wf any) : Bd Wf (sinceP h0 any) := by
  intro p x r h
  obtain ⟨lh, q, h1, h2⟩ := th_split h
  obtain ⟨_, q2, h3, h4⟩ := th_split h2
  obtain ⟨x1, q3, h5, h6⟩ := th_split h4
  obtain ⟨_, q4, h7, h8⟩ := th_split h6
  obtain ⟨x2, q5, h9, h10⟩ := th_split h8
  obtain ⟨_, q6, h11, h12⟩ := th_split h10
  cases h12
  have := bd_span hW _ _ _ h1
  have := need_c hW h3
  have := ha _ _ _ h5
  have := need_c hW h7
  have := ha _ _ _ h9
  have := need_c hW h11
  rw [mk2_b]; omega
theorem bd_timed {any : Nat → PR X} (ha : Bd Wf any) : Bd Wf (timedP h0 any) := by
  intro p x r h
  unfold timedP at h
  split at h
  · rename_i hb; have := bd_look hW ha _ _ _ _ h; have := is_c hW hb; omega
  · split at h
    · rename_i hb; have := bd_look hW ha _ _ _ _ h; have := is_c hW hb; omega
    · split at h
      · rename_i hb; have := bd_since hW ha _ _ _ h; have := is_c hW hb; omega
      · cases h
theorem bd_attr (side : Int) : Bd Wf (attrP h0 side) := by
  intro p x r h
  obtain ⟨_, q, h1, h2⟩ := th_split h
  obtain ⟨t, q2, h3, h4⟩ := th_split h2
  cases h4
  have := need_c hW h1
  have := take_c hW (by decide) h3
  rw [leaf_b]; omega
theorem bd_act : Bd Wf (actP h0) := by
  intro p x r h
  obtain ⟨_, q, h1, h2⟩ := th_split h
  obtain ⟨t, q2, h3, h4⟩ := th_split h2
  obtain ⟨_, q3, h5, h6⟩ := th_split h4
  cases h6
  have := need_c hW h1
  have := take_c hW (by decide) h3
  have := need_c hW h5
  rw [leaf_b]; omega
theorem bd_times : Bd Wf (timesP h0) := by
  intro p x r h
  obtain ⟨_, q, h1, h2⟩ := th_split h
  obtain ⟨t, q2, h3, h4⟩ := th_split h2
  obtain ⟨_, q3, h5, h6⟩ := th_split h4
  obtain ⟨u, q4, h7, h8⟩ := th_split h6
  obtain ⟨_, q5, h9, h10⟩ := th_split h8
  cases h10
  have := need_c hW h1
  have := take_c hW (by decide) h3
  have := need_c hW h5
  have := take_c hW (by decide) h7
  have := need_c hW h9
  rw [leaf_b]; omega
theorem bd_named {one any : Nat → PR X} (ho : Bd Wf one) (ha : Bd Wf any) : Bd Wf (namedP h0 one any) := by
  intro p x r h
  unfold namedP at h
  split at h
  · rename_i hb; cases h; have := is_c hW hb; rw [leaf_b]; simp; omega
  · split at h
    · rename_i hb; cases h; have := is_c hW hb; rw [leaf_b]; simp; omega
    · split at h
      · rename_i hb; cases h; have := is_c hW hb; rw [leaf_b]; simp; omega
      · split at h
        · rename_i hb
          obtain ⟨v, q, h1, h2⟩ := th_split h
          cases h2
          have := ho _ _ _ h1
          have := is_c hW hb
          rw [one_b]; omega
        · split at h
          · rename_i hb; have := bd_attr hW _ _ _ _ h; have := is_c hW hb; omega
          · split at h
            · rename_i hb; have := bd_attr hW _ _ _ _ h; have := is_c hW hb; omega
            · split at h
              · rename_i hb; have := bd_act hW _ _ _ h; have := is_c hW hb; omega
              · split at h
                · rename_i hb; have := bd_times hW _ _ _ h; have := is_c hW hb; omega
                · split at h
                  · rename_i hb
                    obtain ⟨v, q, h1, h2⟩ := th_split h
                    cases h2
                    have := bd_arg hW ha _ _ _ h1
                    have := is_c hW hb
                    rw [one_b]; omega
                  · split at h
                    · rename_i hb
                      obtain ⟨v, q, h1, h2⟩ := th_split h
                      cases h2
                      have := bd_arg hW ha _ _ _ h1
                      have := is_c hW hb
                      rw [one_b]; omega
                    · exact bd_timed hW ha _ _ _ h
theorem bd_one (F : Nat) : ∀ k, Bd Wf (oneF h0 F k)
  | 0 => by intro p x r h; rw [oneF] at h; cases h
  | k + 1 => by
    intro p x r h
    have ih := bd_one F k
    rw [oneF] at h
    split at h
    · rename_i hb; cases h; have := here_c hW (by decide) hb; rw [leaf_b]; simp; omega
    · split at h
      · rename_i hb; cases h; have := here_c hW (by decide) hb; rw [leaf_b]; omega
      · split at h
        · exact bd_signed hW ih (bd_any hW ih F) F _ _ _ h
        · split at h
          · exact bd_named hW ih (bd_any hW ih F) _ _ _ h
          · cases h
end
theorem bulk_pos : ∀ x : X, 7 ≤ x.bulk
  | .mk _ _ _ _ _ _ _ => by simp only [X.bulk]; omega
end Go.Proofs.YtemggoaefohliaaDoor.PS

/- The words of a text: the last one ends all, no other does; their weight. No condition. -/
namespace Go.Proofs.YtemggoaefohliaaDoor.LX
set_option linter.unusedVariables false
set_option linter.unusedSimpArgs false
open Go AE EX PT NF PS
set_option maxRecDepth 100000

theorem sub_le (s : List UInt8) (p q : Nat) : (sub s p q).length ≤ q - p := by
  simp [sub]; omega
theorem next_word {s : List UInt8} {p : Nat} {c : UInt8} {t : Tk} {to : Nat} (hc : s[p]? = some c) (h : nextR s p c = some (.word t to)) : t.s.length ≤ to - p ∧ t.k ≠ 5 := by
  unfold nextR at h
  split at h
  · cases h
  · simp only [Option.some.injEq] at h
    split at h
    · unfold namedR at h
      split at h
      · cases h
      · cases h
        exact ⟨sub_le _ _ _, by simp⟩
    · split at h
      · unfold numberedR at h
        split at h
        · cases h
          exact ⟨sub_le _ _ _, by simp⟩
        · cases h
      · split at h
        · unfold quotedR at h
          split at h
          · cases h
          · split at h
            · cases h
            · split at h
              · cases h
                have := sub_le s (p + 1) (p + 1 + (Lib.indexByte (s.drop (p + 1)) 34).toNat)
                exact ⟨by simp only; omega, by simp⟩
              · cases h
        · unfold signedR at h
          split at h
          · rename_i q hq
            cases h
            have hm := List.mem_of_find?_eq_some hq
            have h2 := sgL_len q hm
            exact ⟨by simp only; omega, by simp⟩
          · split at h
            · split at h
              · cases h
                exact ⟨by have := sub_le s p (p + 1); simp only; omega, by simp⟩
              · cases h
            · cases h

theorem lexF_shape {s : List UInt8} : ∀ (f p : Nat) (out l : List Tk), p ≤ s.length → s.length < f + p → lexF s f p out = .ok l →
    ∃ more, l = out ++ more ++ [⟨5, [], 0, s.length⟩] ∧ (∀ t ∈ more, t.k ≠ 5) ∧ (more.map wT).sum ≤ 15 * (s.length - p) ∧ more.length ≤ s.length - p
  | 0, p, out, l, hp, hf, h => by omega
  | f + 1, p, out, l, hp, hf, h => by
    rw [lexF] at h
    split at h
    · rename_i hn
      have := List.getElem?_eq_none_iff.1 hn
      have hpe : p = s.length := by omega
      cases h
      exact ⟨[], by simp [hpe], by simp, by simp, by simp⟩
    · rename_i c hc
      have hlt := (List.getElem?_eq_some_iff.1 hc).1
      split at h
      · obtain ⟨more, e1, e2, e3, e4⟩ := lexF_shape f (p + 1) out l (by omega) (by omega) h
        exact ⟨more, e1, e2, by omega, by omega⟩
      · cases h
      · rename_i t to hw
        obtain ⟨w1, w2, w3⟩ := next_far hc hw
        obtain ⟨w4, w5⟩ := next_word hc hw
        obtain ⟨more, e1, e2, e3, e4⟩ := lexF_shape f to (out ++ [t]) l w2 (by omega) h
        refine ⟨t :: more, by rw [e1]; simp, ?_, ?_, ?_⟩
        · intro u hu
          rcases List.mem_cons.1 hu with rfl | hu
          · exact w5
          · exact e2 u hu
        · simp only [List.map_cons, List.sum_cons, wT] at e3 ⊢
          omega
        · simp only [List.length_cons]; omega
theorem lexAll_shape {s : List UInt8} {l : List Tk} (h : lexAll s = .ok l) : s.length ≤ 4096 ∧
    ∃ more, l = more ++ [⟨5, [], 0, s.length⟩] ∧ (∀ t ∈ more, t.k ≠ 5) ∧ (more.map wT).sum ≤ 15 * s.length ∧ more.length ≤ s.length := by
  unfold lexAll at h
  split at h
  · cases h
  · obtain ⟨more, e1, e2, e3, e4⟩ := lexF_shape _ 0 [] l (by omega) (by omega) h
    exact ⟨by omega, more, by simpa using e1, e2, by simpa using e3, by simpa using e4⟩

/-- what the parser takes of a text's words -/
theorem take_bound {s : List UInt8} {l : List Tk} (h : lexAll s = .ok l) {x : X} {q : Nat} (hx : anyP (hereT l) (l.length + 1) (oneF (hereT l) (l.length + 1) 32) 0 = .ok (x, q)) : q < l.length ∧ x.bulk ≤ 62000 ∧ l.length ≤ 4097 := by
  obtain ⟨h1, more, e1, e2, e3, e4⟩ := lexAll_shape h
  have hlen : l.length = more.length + 1 := by rw [e1]; simp
  have hm : (hereT l more.length).k = 5 := by
    have : l[more.length]? = some ⟨5, [], 0, s.length⟩ := by rw [e1]; simp
    simp [hereT, this]
  have b1 := bd_any (Wok_l l) (bd_one (Wok_l l) (l.length + 1) 32) (l.length + 1) _ _ _ hx
  have b2 := bd_any (Wok_end hm (by omega)) (bd_one (Wok_end hm (by omega)) (l.length + 1) 32) (l.length + 1) _ _ _ hx
  have hb := bulk_pos x
  have hall := Wt_all l q
  have hs : (l.map wT).sum ≤ 15 * s.length + 14 := by rw [e1]; simp [wT]; exact e3
  refine ⟨?_, by omega, by omega⟩
  simp only [Nat.zero_le, if_true] at b2
  split at b2
  · omega
  · omega
end Go.Proofs.YtemggoaefohliaaDoor.LX

/- fault.Code, Place, Wrap, evaluated. No condition. -/
namespace Go.Proofs.YtemggoaefohliaaDoor.PS
set_option linter.unusedVariables false
set_option linter.unusedSimpArgs false
open Go AE EX PT NF LX
set_option maxRecDepth 100000

theorem esc9 (d : Nat) : E.esc 9 d = (d == 3) := by simp [E]
theorem esc13 (d : Nat) : E.esc 13 d = (d == 3) := by simp [E]
theorem esc16 (d : Nat) : E.esc 16 d = (d == 13) := by simp [E]
theorem ev_As (n : Nat) (args : List AV) (S : St) : ev Tryd.prog E (n + 1) 21 args S = asX args S := by
  have h : ev Tryd.prog E (n + 1) 21 args S = (if E.ok 21 then (if E.dfr 21 then evFuncD Tryd.prog E (ev Tryd.prog E n) (evd Tryd.prog E n) n 21 args S else evFunc Tryd.prog E (ev Tryd.prog E n) n 21 args S) else E.ext 21 args S) := rfl
  rw [h]
  rfl
theorem fin_low {S : St} (H1 : List HBox) (v : AV) (h1 : v.sealed = true) (h2 : v.strip S.T.length = v) (h3 : v.low S.H.length S.T.length = true) : finish S v ⟨S.H ++ H1, S.T⟩ = some (v, S) := by
  unfold finish
  simp [h1, h2, h3, boxEqL_refl]

theorem ev_Code (n : Nat) (S : St) (id : Nat) (c a : Int) (e : AV) (h : S.H[id]? = some ⟨58, [.int .i64 c, .int .i64 a, e]⟩) :
    ev Tryd.prog E (n + 2) 9 [.iface 55 (.ptr id 0)] S = some (.ret (.int .i64 c), S) := by
  have hid : id < S.H.length := (List.getElem?_eq_some_iff.1 h).1
  have hid' : S.H[id] = ⟨58, [.int .i64 c, .int .i64 a, e]⟩ := (List.getElem?_eq_some_iff.1 h).2
  have hA : ev Tryd.prog E (n + 1) 21 [.iface 55 (.ptr id 0), .iface 51 (.ptr S.H.length 0)] ⟨S.H ++ [⟨30, [.int .i64 0]⟩], S.T⟩ = some (.ret (.bool true), ⟨S.H ++ [⟨30, [.int .i64 c]⟩], S.T⟩) := by
    rw [ev_As]
    have h1 : (S.H ++ [(⟨30, [.int .i64 0]⟩ : HBox)])[id]? = some ⟨58, [.int .i64 c, .int .i64 a, e]⟩ := by rw [List.getElem?_append_left hid]; exact h
    have h2 : (S.H ++ [(⟨30, [.int .i64 0]⟩ : HBox)])[S.H.length]? = some ⟨30, [.int .i64 0]⟩ := by simp
    simp only [asX, h1, h2]
    simp
  have hz30 : zeroQ Tryd.prog 30 = some [.int .i64 0] := by kernel_rfl
  have hf := fin_low (S := S) [⟨30, [.int .i64 c]⟩] (.int .i64 c) rfl rfl rfl
  have hg : (S.H ++ [(⟨30, [.int .i64 c]⟩ : HBox)])[S.H.length]? = some ⟨30, [.int .i64 c]⟩ := by simp
  rw [show n + 2 = (n + 1) + 1 from rfl, ev_enter (n := n + 1) (show E.ok 9 = true from rfl) Tryd.func9 (fn := Tryd.f9) rfl (Nat.le_of_ble_eq_true rfl) (by decide +kernel)]
  simp (disch := first | (simp only [List.length_append, List.length_cons, List.length_nil]; omega) | (simp; done) | assumption) [AV.cells?, AV.isCell, Tryd.f9, esc9, hz30, tn51, hA, hg, hf, tk30, tc30, ta30, AV.sealed, AV.sealedL]
theorem ev_Code0 (n : Nat) (S : St) : ev Tryd.prog E (n + 2) 9 [.nilif] S = some (.ret (.int .i64 0), S) := by
  have hA : ev Tryd.prog E (n + 1) 21 [.nilif, .iface 51 (.ptr S.H.length 0)] ⟨S.H ++ [⟨30, [.int .i64 0]⟩], S.T⟩ = some (.ret (.bool false), ⟨S.H ++ [⟨30, [.int .i64 0]⟩], S.T⟩) := by
    rw [ev_As]; rfl
  have hz30 : zeroQ Tryd.prog 30 = some [.int .i64 0] := by kernel_rfl
  have hf := fin_low (S := S) [⟨30, [.int .i64 0]⟩] (.int .i64 0) rfl rfl rfl
  rw [show n + 2 = (n + 1) + 1 from rfl, ev_enter (n := n + 1) (show E.ok 9 = true from rfl) Tryd.func9 (fn := Tryd.f9) rfl (Nat.le_of_ble_eq_true rfl) (by decide +kernel)]
  simp (disch := first | (simp only [List.length_append, List.length_cons, List.length_nil]; omega) | (simp; done) | assumption) [AV.cells?, AV.isCell, Tryd.f9, esc9, hz30, tn51, hA, hf, tk30, tc30, ta30, AV.sealed, AV.sealedL]
theorem ev_Place (n : Nat) (S : St) (id : Nat) (c a : Int) (e : AV) (h : S.H[id]? = some ⟨58, [.int .i64 c, .int .i64 a, e]⟩) :
    ev Tryd.prog E (n + 2) 13 [.iface 55 (.ptr id 0)] S = some (.ret (.int .i64 a), S) := by
  have hid : id < S.H.length := (List.getElem?_eq_some_iff.1 h).1
  have hA : ev Tryd.prog E (n + 1) 21 [.iface 55 (.ptr id 0), .iface 56 (.ptr S.H.length 0)] ⟨S.H ++ [⟨55, [.nilp]⟩], S.T⟩ = some (.ret (.bool true), ⟨S.H ++ [⟨55, [.ptr id 0]⟩], S.T⟩) := by
    rw [ev_As]
    have h2 : (S.H ++ [(⟨55, [.nilp]⟩ : HBox)])[S.H.length]? = some ⟨55, [.nilp]⟩ := by simp
    simp only [asX, h2]
    simp
  have htr := tr55
  have hz55 : zeroQ Tryd.prog 55 = some [.nilp] := by kernel_rfl
  have hf := fin_low (S := S) [⟨55, [.ptr id 0]⟩] (.int .i64 a) rfl rfl rfl
  have hg : (⟨S.H ++ [⟨55, [.ptr id 0]⟩], S.T⟩ : St).H[S.H.length]? = some ⟨55, [.ptr id 0]⟩ := by simp
  have hg2 : (⟨S.H ++ [⟨55, [.ptr id 0]⟩], S.T⟩ : St).H[id]? = some ⟨58, [.int .i64 c, .int .i64 a, e]⟩ := by simp only; rw [List.getElem?_append_left hid]; exact h
  generalize (⟨S.H ++ [⟨55, [.ptr id 0]⟩], S.T⟩ : St) = S2 at *
  rw [show n + 2 = (n + 1) + 1 from rfl, ev_enter (n := n + 1) (show E.ok 13 = true from rfl) Tryd.func13 (fn := Tryd.f13) rfl (Nat.le_of_ble_eq_true rfl) (by decide +kernel)]
  simp (disch := first | (simp only [List.length_append, List.length_cons, List.length_nil]; omega) | (simp; done) | assumption) [AV.cells?, AV.isCell, Tryd.f13, esc13, hz55, tn56, hA, hg, hg2, hf, tk55, tc55, ta55, tr55, tq58_1, k3, c3, a3, AV.sealed, AV.sealedL, ofC]
theorem ev_Wrap (n : Nat) (S : St) (id : Nat) (c a : Int) : ev Tryd.prog E (n + 1) 16 [.int .i64 c, .int .i64 a, .iface 55 (.ptr id 0)] S = some (.ret (.iface 55 (.ptr S.H.length 0)), ⟨S.H ++ [⟨58, [.int .i64 c, .int .i64 a, .iface 55 (.ptr id 0)]⟩], S.T⟩) := by
  have htf := tf27
  have hbd : evBuild Tryd.prog 58 [(0, .int .i64 c), (1, .int .i64 a), (2, .iface 55 (.ptr id 0))] = some (.agg [.int .i64 c, .int .i64 a, .iface 55 (.ptr id 0)]) := by
    simp [evBuild, tp58, tz58, fillA, tl58_0, tl58_1, tl58_2, AV.cells?, wrc]
  have hf : finish S (.iface 55 (.ptr S.H.length 0)) ⟨S.H ++ [⟨58, [.int .i64 c, .int .i64 a, .iface 55 (.ptr id 0)]⟩], S.T⟩ = some (.iface 55 (.ptr S.H.length 0), ⟨S.H ++ [⟨58, [.int .i64 c, .int .i64 a, .iface 55 (.ptr id 0)]⟩], S.T⟩) := by
    unfold finish
    simp [AV.sealed, AV.strip, AV.low]
  rw [ev_enter (n := n) (show E.ok 16 = true from rfl) Tryd.func16 (fn := Tryd.f16) rfl (Nat.le_of_ble_eq_true rfl) (by decide +kernel)]
  simp (disch := first | (simp only [List.length_append, List.length_cons, List.length_nil]; omega) | (simp; done) | assumption) [AV.cells?, AV.isCell, -evBuild, Tryd.f16, esc16, hbd, tf27, tn55, hf, AV.sealed, AV.sealedL, ofC]
end Go.Proofs.YtemggoaefohliaaDoor.PS

/- parse.Expr, evaluated whole. Condition: the world outside is closed. -/
namespace Go.Proofs.YtemggoaefohliaaDoor.PS
set_option linter.unusedVariables false
set_option linter.unusedSimpArgs false
open Go AE EX PT NF LX
set_option maxRecDepth 100000

/-- a fault stands at id, so many in one another -/
def FaultAt (S : St) : Nat → Nat → Int → Int → Prop
  | 0, id, c, p => S.H[id]? = some ⟨58, [.int .i64 c, .int .i64 p, .nilif]⟩
  | d + 1, id, c, p => ∃ id2 c2 p2, S.H[id]? = some ⟨58, [.int .i64 c, .int .i64 p, .iface 55 (.ptr id2 0)]⟩ ∧ FaultAt S d id2 c2 p2
/-- a text's expression; or its first error's code and place, and whether it is in another one -/
noncomputable def exprR (s : List UInt8) : Except (Int × Int × Nat) X :=
  match lexAll s with
  | .error (c, p) => .error (c, p, 0)
  | .ok l => match takeR l with
    | .error (c, p) => .error (c, (hereT l p).p, 1)
    | .ok (x, q) => if (hereT l q).k = 5 then (if chkX x = 0 then .ok x else .error (chkX x, 0, 0)) else .error (16, (hereT l q).p, 0)

theorem fin_hi2 {S S' : St} {id : Nat} (h : S.H.length ≤ id) : finish S (.tup [zX.emb, .iface 55 (.ptr id 0)]) S' = some (.tup [zX.emb, .iface 55 (.ptr id 0)], S') := fin_hi h _ (sealed_emb _)
theorem fin_ok (S : St) (x : X) : finish S (.tup [x.emb, .nilif]) S = some (.tup [x.emb, .nilif], S) :=
  finish_same (by simp [AV.sealed, AV.sealedL, sealed_emb]) (by simp [AV.strip, AV.stripL, strip_emb]) (by simp [AV.low, AV.lowL, low_emb]) rfl rfl

set_option maxHeartbeats 8000000 in
theorem ev_Expr (n : Nat) (S0 : St) (s : List UInt8) (hs : s.length ≤ 1100000) (hw : lowB S0.H.length S0.T.length S0.H = true) (hn : 1200000 ≤ n) :
    (∀ x, exprR s = .ok x → ev Tryd.prog E (n + 1) 7 [.str s] S0 = some (.ret (.tup [x.emb, .nilif]), S0)) ∧
    (∀ c p d, exprR s = .error (c, p, d) → ∃ id S', S0.H.length ≤ id ∧ ev Tryd.prog E (n + 1) 7 [.str s] S0 = some (.ret (.tup [zX.emb, .iface 55 (.ptr id 0)]), S') ∧ FaultAt S' d id c p ∧ Grows S0 S') := by
  have ez : evBuild Tryd.prog 25 [] = some zX.emb := bXz
  have hz25 : zeroQ Tryd.prog 25 = some z6 := by kernel_rfl
  have zc := xcells zX
  have zl := xlen zX
  have zt := xtake zX
  have ze := xemb zX
  have hti := tf27
  have hsz : AV.sealedL z6 = true := rfl
  have l6 := z6_len
  obtain ⟨hA1, hA2⟩ := ev_All (n - 6) S0 s hs (by omega)
  rw [show n - 6 + 6 = n by omega] at hA1 hA2
  cases hL : lexAll s with
  | error e =>
    obtain ⟨c, p⟩ := e
    have hR : exprR s = .error (c, p, 0) := by unfold exprR; rw [hL]
    rw [hR]
    refine ⟨(fun x h => by cases h), fun c' p' d' h => ?_⟩
    cases h
    obtain ⟨id, S', h1, h2, h3, h4⟩ := hA2 c p hL
    refine ⟨id, S', h1, ?_, h3, h4⟩
    have hf := fin_hi2 (S := S0) (S' := S') h1
    generalize zX.cells = zcs at *
    generalize zX.emb = zem at *
    generalize z6 = z at *
    rw [ev_enter (n := n) (show E.ok 7 = true from rfl) Tryd.func7 (fn := Tryd.f7) rfl (Nat.le_of_ble_eq_true rfl) (by decide +kernel)]
    simp (disch := first | (simp only [List.length_append, List.length_cons, List.length_nil]; omega) | (simp; done) | assumption) [AV.cells?, AV.isCell, -AV.cells?, cq_int, cq_nilif, cq_iface, -evBuild, Tryd.f7, E_esc, hz25, h2, ez, zc, zl, zt, ze, l6, hf, c24, a24, k24, i24, ofC]
  | ok l =>
    have hl := hA1 l hL
    obtain ⟨_, more, e1, e2, e3, e4⟩ := lexAll_shape hL
    have hlen : l.length ≤ 4097 := by rw [e1]; simp; have := (lexAll_shape hL).1; omega
    have hT := ev_Take (n - 5) S0 l (by omega) hw (by omega)
    rw [show n - 5 + 5 = n by omega] at hT
    unfold takeAns at hT
    cases hR2 : takeR l with
    | error e =>
      obtain ⟨c, p⟩ := e
      rw [hR2] at hT
      have hR : exprR s = .error (c, (hereT l p).p, 1) := by unfold exprR; rw [hL]; simp only [hR2]
      rw [hR]
      refine ⟨(fun x h => by cases h), fun c' p' d' h => ?_⟩
      cases h
      simp only at hT
      generalize hp : (hereT l p).p = pl at *
      have g : (TSt S0 l zX 0 (.iface 55 (.ptr (S0.H.length + 4) 0)) p [⟨58, [.int .i64 c, .int .i64 pl, .nilif]⟩]).H[S0.H.length + 4]? = some ⟨58, [.int .i64 c, .int .i64 pl, .nilif]⟩ := by
        simp [TSt, TB]
      have hlen2 : (TSt S0 l zX 0 (.iface 55 (.ptr (S0.H.length + 4) 0)) p [⟨58, [.int .i64 c, .int .i64 pl, .nilif]⟩]).H.length = S0.H.length + 5 := by
        simp [TSt, TB]
      generalize hS1 : TSt S0 l zX 0 (.iface 55 (.ptr (S0.H.length + 4) 0)) p [⟨58, [.int .i64 c, .int .i64 pl, .nilif]⟩] = S1 at *
      have hC := ev_Code (n - 2) S1 _ _ _ _ g
      have hP := ev_Place (n - 2) S1 _ _ _ _ g
      rw [show n - 2 + 2 = n by omega] at hC hP
      have hW := ev_Wrap (n - 1) S1 (S0.H.length + 4) c pl
      rw [show n - 1 + 1 = n by omega, hlen2] at hW
      refine ⟨S0.H.length + 5, ⟨S1.H ++ [⟨58, [.int .i64 c, .int .i64 pl, .iface 55 (.ptr (S0.H.length + 4) 0)]⟩], S1.T⟩, by omega, ?_, ⟨S0.H.length + 4, c, pl, ?_, ?_⟩, ?_⟩
      · have hf := fin_hi2 (S := S0) (S' := ⟨S1.H ++ [⟨58, [.int .i64 c, .int .i64 pl, .iface 55 (.ptr (S0.H.length + 4) 0)]⟩], S1.T⟩) (show S0.H.length ≤ S0.H.length + 5 by omega)
        generalize (⟨S1.H ++ [⟨58, [.int .i64 c, .int .i64 pl, .iface 55 (.ptr (S0.H.length + 4) 0)]⟩], S1.T⟩ : St) = S2 at *
        generalize S0.H.length + 4 = i4 at *
        generalize S0.H.length + 5 = i5 at *
        clear hL hR hR2 hA1 hA2 hS1
        generalize tkL l = es at *
        generalize zX.cells = zcs at *
        generalize zX.emb = zem at *
        generalize z6 = z at *
        rw [ev_enter (n := n) (show E.ok 7 = true from rfl) Tryd.func7 (fn := Tryd.f7) rfl (Nat.le_of_ble_eq_true rfl) (by decide +kernel)]
        simp (disch := first | (simp only [List.length_append, List.length_cons, List.length_nil]; omega) | (simp; done) | assumption) [AV.cells?, AV.isCell, -AV.cells?, cq_int, cq_nilif, cq_iface, -evBuild, Tryd.f7, E_esc, hz25, hl, hT, hC, hP, hW, ez, zc, zl, zt, ze, l6, hf, c24, a24, k24, i24, ofC]
      · simp [hlen2]
      · show (S1.H ++ _)[S0.H.length + 4]? = _
        rw [List.getElem?_append_left (by omega)]
        exact g
      · rw [← hS1]
        exact Grows.push ⟨by simp [TSt], by simp [TSt]⟩ _
    | ok r =>
      obtain ⟨x, q⟩ := r
      rw [hR2] at hT
      simp only at hT
      obtain ⟨hq, hb, _⟩ := take_bound hL hR2
      have hx : l[q]? = some l[q] := List.getElem?_eq_getElem hq
      have hh : hereT l q = l[q] := by simp [hereT, hx]
      have hia := ia l .non q _ hx
      have hE : exprR s = (if (hereT l q).k = 5 then (if chkX x = 0 then .ok x else .error (chkX x, 0, 0)) else .error (16, (hereT l q).p, 0)) := by
        unfold exprR; rw [hL]; simp only [hR2]
      rw [hh] at hE
      have xc := xcells x
      have xl := xlen x
      have xt := xtake x
      have xe := xemb x
      have xd : List.drop 6 x.cells = [] := List.drop_eq_nil_of_le (by rw [xl]; omega)
      generalize l[q] = t at *
      obtain ⟨k, ts, tn, tp⟩ := t
      simp only [Tk.cells] at hia hE
      by_cases h5 : k = 5
      · rw [if_pos h5] at hE
        subst h5
        have hK := ev_aCheckC (n - 1) x (by omega) (by omega) S0
        rw [show n - 1 + 1 = n by omega] at hK
        by_cases hc : chkX x = 0
        · rw [if_pos hc] at hE
          rw [hE]
          refine ⟨fun y h => ?_, fun c p d h => by cases h⟩
          cases h
          rw [hc] at hK
          have hf := fin_ok S0 x
          clear hL hE hR2 hA1 hA2 hx hh
          generalize tkL l = es at *
          generalize x.cells = xcs at *
          generalize x.emb = xem at *
          generalize z6 = z at *
          rw [ev_enter (n := n) (show E.ok 7 = true from rfl) Tryd.func7 (fn := Tryd.f7) rfl (Nat.le_of_ble_eq_true rfl) (by decide +kernel)]
          simp (disch := first | (simp only [List.length_append, List.length_cons, List.length_nil]; omega) | (simp; done) | assumption) [AV.cells?, AV.isCell, -AV.cells?, cq_int, cq_nilif, cq_iface, -evBuild, -evIndexAddr, Tryd.f7, E_esc, hz25, hl, hT, hia, hK, ez, xc, xl, xt, xe, xd, l6, hf, c24, a24, k24, i24, tq46_0, tc46, ta46, tk46, bq3, k3, c3, a3, tb30, ofC]
        · rw [if_neg hc] at hE
          rw [hE]
          refine ⟨(fun y h => by cases h), fun c p d h => ?_⟩
          cases h
          generalize chkX x = cc at *
          have hN := ev_New (n - 1) cc 0 S0
          rw [show n - 1 + 1 = n by omega] at hN
          have hf := fin_hi2 (S := S0) (S' := ⟨S0.H ++ [⟨58, [.int .i64 cc, .int .i64 0, .nilif]⟩], S0.T⟩) (Nat.le_refl _)
          refine ⟨S0.H.length, ⟨S0.H ++ [⟨58, [.int .i64 cc, .int .i64 0, .nilif]⟩], S0.T⟩, Nat.le_refl _, ?_, by simp [FaultAt], ⟨by simp, by simp⟩⟩
          generalize (⟨S0.H ++ [⟨58, [.int .i64 cc, .int .i64 0, .nilif]⟩], S0.T⟩ : St) = S2 at *
          clear hL hE hR2 hA1 hA2 hx hh
          generalize tkL l = es at *
          generalize x.cells = xcs at *
          generalize x.emb = xem at *
          generalize zX.cells = zcs at *
          generalize zX.emb = zem at *
          generalize z6 = z at *
          rw [ev_enter (n := n) (show E.ok 7 = true from rfl) Tryd.func7 (fn := Tryd.f7) rfl (Nat.le_of_ble_eq_true rfl) (by decide +kernel)]
          simp (disch := first | (simp only [List.length_append, List.length_cons, List.length_nil]; omega) | (simp; done) | assumption) [AV.cells?, AV.isCell, -AV.cells?, cq_int, cq_nilif, cq_iface, -evBuild, -evIndexAddr, Tryd.f7, E_esc, hz25, hl, hT, hia, hK, hc, hN, ez, zc, zl, zt, ze, xc, xl, xt, xe, xd, l6, hf, c24, a24, k24, i24, tq46_0, tc46, ta46, tk46, bq3, k3, c3, a3, tb30, ofC]
      · rw [if_neg h5] at hE
        rw [hE]
        refine ⟨(fun y h => by cases h), fun c p d h => ?_⟩
        cases h
        have hN := ev_New (n - 1) 16 tp S0
        rw [show n - 1 + 1 = n by omega] at hN
        have hf := fin_hi2 (S := S0) (S' := ⟨S0.H ++ [⟨58, [.int .i64 16, .int .i64 tp, .nilif]⟩], S0.T⟩) (Nat.le_refl _)
        refine ⟨S0.H.length, ⟨S0.H ++ [⟨58, [.int .i64 16, .int .i64 tp, .nilif]⟩], S0.T⟩, Nat.le_refl _, ?_, by simp [FaultAt], ⟨by simp, by simp⟩⟩
        generalize (⟨S0.H ++ [⟨58, [.int .i64 16, .int .i64 tp, .nilif]⟩], S0.T⟩ : St) = S2 at *
        clear hL hE hR2 hA1 hA2 hx hh
        generalize tkL l = es at *
        generalize x.cells = xcs at *
        generalize x.emb = xem at *
        generalize zX.cells = zcs at *
        generalize zX.emb = zem at *
        generalize z6 = z at *
        rw [ev_enter (n := n) (show E.ok 7 = true from rfl) Tryd.func7 (fn := Tryd.f7) rfl (Nat.le_of_ble_eq_true rfl) (by decide +kernel)]
        simp (disch := first | (simp only [List.length_append, List.length_cons, List.length_nil]; omega) | (simp; done) | assumption) [AV.cells?, AV.isCell, -AV.cells?, cq_int, cq_nilif, cq_iface, -evBuild, -evIndexAddr, Tryd.f7, E_esc, hz25, hl, hT, hia, h5, hN, ez, zc, zl, zt, ze, xc, xl, xt, xe, xd, l6, hf, c24, a24, k24, i24, tq46_0, tq46_3, tc46, ta46, tk46, bq3, k3, c3, a3, ofC]
end Go.Proofs.YtemggoaefohliaaDoor.PS

/- beadlelaw08.alive, evaluated; ParseMay. Condition: the world outside is closed. -/
namespace Go.Proofs.YtemggoaefohliaaDoor.PS
set_option linter.unusedVariables false
set_option linter.unusedSimpArgs false
open Go AE EX PT NF LX
set_option maxRecDepth 100000

def aTxt : List UInt8 := [49, 32, 43, 32, 115, 46, 97]
def bTxt : List UInt8 := [49, 32, 43]
def aX : X := bothX 8 (leafX 1 [] 1 0) (leafX 5 [97] 0 0)
theorem lexA : lexAll aTxt = .ok [⟨2, [49], 1, 0⟩, ⟨4, [43], 0, 2⟩, ⟨1, [115], 0, 4⟩, ⟨4, [46], 0, 5⟩, ⟨1, [97], 0, 6⟩, ⟨5, [], 0, 7⟩] := by kernel_rfl
theorem lexB : lexAll bTxt = .ok [⟨2, [49], 1, 0⟩, ⟨4, [43], 0, 2⟩, ⟨5, [], 0, 3⟩] := by kernel_rfl
theorem takA : takeR [⟨2, [49], 1, 0⟩, ⟨4, [43], 0, 2⟩, ⟨1, [115], 0, 4⟩, ⟨4, [46], 0, 5⟩, ⟨1, [97], 0, 6⟩, ⟨5, [], 0, 7⟩] = .ok (aX, 5) := by kernel_rfl
theorem takB : takeR [⟨2, [49], 1, 0⟩, ⟨4, [43], 0, 2⟩, ⟨5, [], 0, 3⟩] = .error (16, 2) := by kernel_rfl
theorem okA : OKx aX := by
  refine ⟨by decide, by decide, ?_⟩
  have h1 : MayAll (leafX 1 [] 1 0) := (mayAll_more (by decide)).2 ⟨by simp [kinds], by decide, by constructor <;> simp, by simp⟩
  have h2 : MayAll (leafX 5 [97] 0 0) := (mayAll_more (by decide)).2 ⟨by simp [kinds], by decide, by constructor <;> simp <;> decide, by simp⟩
  have h3 : MayAll aX := (mayAll_more (by decide)).2 ⟨by simp [kinds], by decide, by constructor <;> simp, by
    intro x hx
    simp at hx
    rcases hx with rfl | rfl
    · exact h1
    · exact h2⟩
  exact h3
theorem exprA : exprR aTxt = .ok aX := by
  unfold exprR
  rw [lexA]
  simp only [takA]
  rw [if_pos (show (hereT _ 5).k = 5 from rfl), if_pos ((chkX_ok aX).2 okA)]
theorem exprB : exprR bTxt = .error (16, 3, 1) := by
  unfold exprR
  rw [lexB]
  simp only [takB]
  rfl

set_option maxHeartbeats 8000000 in
theorem ev_alive (n : Nat) (S0 : St) (hw : lowB S0.H.length S0.T.length S0.H = true) (hn : 1200000 ≤ n) : ev Tryd.prog E (n + 2) 6 [] S0 = some (.ret (.bool true), S0) := by
  have h1 := (ev_Expr n S0 aTxt (by decide) hw hn).1 _ exprA
  obtain ⟨id, S', i1, i2, ⟨j2, c2, p2, i3, i4⟩, i5⟩ := (ev_Expr n S0 bTxt (by decide) hw hn).2 _ _ _ exprB
  have hC := ev_Code (n - 1) S' id _ _ _ i3
  have hP := ev_Place (n - 1) S' id _ _ _ i3
  rw [show n - 1 + 2 = n + 1 by omega] at hC hP
  have hz25 : zeroQ Tryd.prog 25 = some z6 := by kernel_rfl
  have zc := xcells zX
  have zl := xlen zX
  have zt := xtake zX
  have ze := xemb zX
  have zd : List.drop 6 zX.cells = [] := rfl
  have ac := xcells aX
  have hti := tf27
  have l6 := z6_len
  have ha : aX.cells = [.int .i64 8, .str [], .int .i64 0, .int .i64 0, .int .i64 0, .slice (embL [leafX 1 [] 1 0, leafX 5 [97] 0 0]) .clip] := rfl
  have hia : evIndexAddr Tryd.prog 23 (.slice (embL [leafX 1 [] 1 0, leafX 5 [97] 0 0]) .clip) (.int .i64 1) = some (.ref [.int .i64 5, .str [97], .int .i64 0, .int .i64 0, .int .i64 0, .slice [] .clip]) := by
    have hi : (Tryd.prog.info? 25).isSome = true := i24
    simp [evIndexAddr, sq22, nth, embL, X.emb, AV.cells?, AV.isCell, c24, leafX, tokOf]
    exact Option.isSome_iff_ne_none.1 hi
  have hel : (embL [leafX 1 [] 1 0, leafX 5 [97] 0 0]).length = 2 := rfl
  have hlen : evLen Tryd.prog 23 (.slice (embL [leafX 1 [] 1 0, leafX 5 [97] 0 0]) .clip) = some (.int .i64 2) := by simp [evLen, sq22, embL]
  have hf : finish S0 (.bool true) S' = some (.bool true, S0) := fin_grow i5 _ rfl rfl rfl
  have hb30 := tb30
  simp only [aTxt, bTxt] at h1 i2
  generalize embL [leafX 1 [] 1 0, leafX 5 [97] 0 0] = es at *
  rw [ha] at ac
  have al : (6 : Nat) = 6 := rfl
  generalize aX.emb = ae at *
  generalize zX.cells = zcs at *
  generalize zX.emb = zem at *
  generalize z6 = z at *
  rw [show n + 2 = (n + 1) + 1 from rfl, ev_enter (n := n + 1) (show E.ok 6 = true from rfl) Tryd.func6 (fn := Tryd.f6) rfl (Nat.le_of_ble_eq_true rfl) (by decide +kernel)]
  simp (disch := first | (simp only [List.length_append, List.length_cons, List.length_nil]; omega) | (simp; done) | assumption) [AV.cells?, AV.isCell, -AV.cells?, cq_int, cq_nilif, cq_iface, -evBuild, -evIndexAddr, -evLen, Tryd.f6, E_esc, hz25, h1, i2, hC, hP, ac, zc, zl, zt, ze, zd, l6, hia, hlen, hf, c24, a24, k24, i24, k3, c3, a3, k22, c22, a22, k9, a9, c9, bq3, bq9, hb30, fq0, fq1, fq5, ofC]

set_option maxHeartbeats 8000000 in
/-- ParseMay: true. -/
theorem law_ParseMay (n : Nat) (s : List UInt8) (hs : s.length ≤ 1048576) (hn : 1200001 ≤ n) : ev Tryd.prog E (n + 2) 3 [.str s] st0 = some (.ret (.bool true), st0) := by
  have hw : lowB st0.H.length st0.T.length st0.H = true := rfl
  obtain ⟨hA1, hA2⟩ := ev_Expr n st0 s (by omega) hw (by omega)
  have hal := ev_alive (n - 1) st0 hw (by omega)
  rw [show n - 1 + 2 = n + 1 by omega] at hal
  have hz25 : zeroQ Tryd.prog 25 = some z6 := by kernel_rfl
  have zc := xcells zX
  have zl := xlen zX
  have zd : List.drop 6 zX.cells = [] := rfl
  have hti := tf27
  have l6 := z6_len
  have hb30 := tb30
  cases hR : exprR s with
  | error e =>
    obtain ⟨c, p, d⟩ := e
    obtain ⟨id, S', i1, i2, i3, i4⟩ := hA2 c p d hR
    have hf := fin_grow i4 (.bool true) rfl rfl rfl
    clear hA1 hA2
    generalize zX.cells = zcs at *
    generalize zX.emb = zem at *
    generalize z6 = z at *
    rw [show n + 2 = (n + 1) + 1 from rfl, ev_enter (n := n + 1) (show E.ok 3 = true from rfl) Tryd.func3 (fn := Tryd.f3) rfl (Nat.le_of_ble_eq_true rfl) (by decide +kernel)]
    simp (disch := first | (simp only [List.length_append, List.length_cons, List.length_nil]; omega) | (simp; done) | assumption) [AV.cells?, AV.isCell, -AV.cells?, cq_int, cq_nilif, cq_iface, -evBuild, Tryd.f3, E_esc, hz25, hal, i2, zc, zl, zd, l6, hf, c24, a24, k24, i24, ofC]
  | ok x =>
    have hE := hA1 x hR
    have hcx : chkX x = 0 ∧ x.bulk ≤ 62000 := by
      unfold exprR at hR
      cases hL : lexAll s with
      | error e => obtain ⟨c, p⟩ := e; rw [hL] at hR; cases hR
      | ok l =>
        rw [hL] at hR
        simp only at hR
        cases hT : takeR l with
        | error e => obtain ⟨c, p⟩ := e; rw [hT] at hR; cases hR
        | ok r =>
          obtain ⟨y, q⟩ := r
          rw [hT] at hR
          simp only at hR
          split at hR
          · split at hR
            · rename_i h0
              cases hR
              exact ⟨h0, (take_bound hL hT).2.1⟩
            · cases hR
          · cases hR
    have hK := ev_aCheckC n x (by omega) (by omega) st0
    rw [hcx.1] at hK
    have xc := xcells x
    have xl := xlen x
    have xt := xtake x
    have xe := xemb x
    have xd : List.drop 6 x.cells = [] := List.drop_eq_nil_of_le (by rw [xl]; omega)
    clear hA1 hA2 hcx hR
    generalize x.cells = xcs at *
    generalize x.emb = xem at *
    generalize z6 = z at *
    rw [show n + 2 = (n + 1) + 1 from rfl, ev_enter (n := n + 1) (show E.ok 3 = true from rfl) Tryd.func3 (fn := Tryd.f3) rfl (Nat.le_of_ble_eq_true rfl) (by decide +kernel)]
    simp (disch := first | (simp only [List.length_append, List.length_cons, List.length_nil]; omega) | (simp; done) | assumption) [AV.cells?, AV.isCell, -AV.cells?, cq_int, cq_nilif, cq_iface, -evBuild, Tryd.f3, E_esc, hz25, hal, hE, hK, xc, xl, xt, xe, xd, l6, c24, a24, k24, i24, hb30, ofC]
end Go.Proofs.YtemggoaefohliaaDoor.PS

