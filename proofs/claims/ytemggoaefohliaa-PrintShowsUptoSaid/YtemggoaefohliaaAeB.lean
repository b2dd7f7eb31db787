/- How the evaluator's values stand for the model's, and what such a relation bears. No condition. -/
import Derived.Test.YtemggoaefohliaaAeA
import Derived.Below
import Derived.Calls
namespace Go.Proofs.Ytemggoaefohliaa.AE
set_option linter.unusedVariables false
set_option linter.unusedSimpArgs false
open Go Go.RowKit

/-- what is known of memory beside the world: cells that nobody writes any more; the blocks of boxes, of local boxes, of tokens (with how many cells); the frontiers -/
structure Gh where
  I : Nat → Nat → Option Value
  phi : Nat → Option Nat
  nu : Nat → Nat → Option Nat
  tau : Nat → Option (Nat × Nat)
  fr : Nat → Option Nat

def flatQ : List AV → Option (List AV)
  | [] => some []
  | e :: es => match e.cells?, flatQ es with
    | some cs, some l => some (cs ++ l) | _, _ => none

def TokR (G : Gh) (tok : Tok) (es : List AV) (fl : List AV) (b o cap : Nat) : Prop :=
  match tok with
  | .non => True
  | .clip => cap = es.length
  | .own t pos => ∃ n sz, es ≠ [] ∧ 0 < sz ∧ G.fr t = some n ∧ pos ≤ n ∧ fl.length = es.length * sz ∧
      (n = pos → ∃ m, o = 0 ∧ G.tau t = some (b, m) ∧ fl.length = pos ∧ cap * sz ≤ m)

mutual
inductive VR (G : Gh) : AV → Value → Prop where
  | junk (v : Value) : VR G .junk v
  | undef : VR G .undef (.tuple #[])
  | bool (b : Bool) : VR G (.bool b) (.bool b)
  | int (k : IntKind) (n : Int) : VR G (.int k n) (.int k n)
  | str (bs : ByteArray) : VR G (.str bs.data.toList) (.string bs)
  | agg (cs : List AV) (vs : Array Value) : VRL G cs vs.toList → VR G (.agg cs) (.agg vs)
  | tup (cs : List AV) (vs : Array Value) : VRL G cs vs.toList → VR G (.tup cs) (.tuple vs)
  | nilp : VR G .nilp (.pointer none)
  | ref (cs : List AV) (b o : Nat) : VRI G cs b o → VR G (.ref cs) (.pointer (some ⟨b, o, none⟩))
  | loc (dep d ver off b : Nat) : G.nu dep ver = some b → VR G (.loc dep d ver off) (.pointer (some ⟨b, off, none⟩))
  | ptr (id off b : Nat) : G.phi id = some b → VR G (.ptr id off) (.pointer (some ⟨b, off, none⟩))
  | fn (f : FuncId) (first cap : List AV) (fv cv : Array Value) : VRL G first fv.toList → VRL G cap cv.toList → VR G (.fn f first cap) (.func (.func f) fv cv)
  | iface (t : TypeId) (a : AV) (v : Value) : VR G a v → VR G (.iface t a) (.iface t v)
  | nilif : VR G .nilif .nilIface
  | nils (tok : Tok) (ad : Option Addr) : (∀ t p, tok ≠ .own t p) → VR G (.slice [] tok) (.slice ad 0 0)
  | slice (es : List AV) (tok : Tok) (fl : List AV) (b o cap sz : Nat) : es.length ≤ cap → flatQ es = some fl → VRI G fl b o → TokR G tok es fl b o cap → sizesOk sz es = true →
      VR G (.slice es tok) (.slice (some ⟨b, o, none⟩) es.length cap)
inductive VRL (G : Gh) : List AV → List Value → Prop where
  | nil : VRL G [] []
  | cons (a : AV) (v : Value) (l : List AV) (m : List Value) : VR G a v → VRL G l m → VRL G (a :: l) (v :: m)
inductive VRI (G : Gh) : List AV → Nat → Nat → Prop where
  | nil (b o : Nat) : VRI G [] b o
  | cons (a : AV) (v : Value) (l : List AV) (b o : Nat) : G.I b o = some v → VR G a v → VRI G l b (o + 1) → VRI G (a :: l) b o
end

/-- G' knows all that G knows. -/
structure Gle (G G' : Gh) : Prop where
  I : ∀ b o v, G.I b o = some v → G'.I b o = some v
  phi : ∀ i b, G.phi i = some b → G'.phi i = some b
  nu : ∀ d v b, G.nu d v = some b → G'.nu d v = some b
  fr : ∀ t n, G.fr t = some n → ∃ n', G'.fr t = some n' ∧ n ≤ n' ∧ (n' = n → G'.tau t = G.tau t)

theorem Gle.refl (G : Gh) : Gle G G := ⟨fun _ _ _ h => h, fun _ _ h => h, fun _ _ _ h => h, fun _ n h => ⟨n, h, Nat.le_refl _, fun _ => rfl⟩⟩
theorem Gle.trans {A B C : Gh} (h : Gle A B) (k : Gle B C) : Gle A C :=
  ⟨fun b o v e => k.I b o v (h.I b o v e), fun i b e => k.phi i b (h.phi i b e), fun d v b e => k.nu d v b (h.nu d v b e), fun t n e => by
    obtain ⟨n1, e1, l1, t1⟩ := h.fr t n e
    obtain ⟨n2, e2, l2, t2⟩ := k.fr t n1 e1
    exact ⟨n2, e2, by omega, fun hn => by rw [t2 (by omega), t1 (by omega)]⟩⟩

theorem TokR.mono {G G' : Gh} (h : Gle G G') {tok : Tok} {es fl : List AV} {b o cap : Nat} (r : TokR G tok es fl b o cap) : TokR G' tok es fl b o cap := by
  cases tok with
  | non => trivial
  | clip => exact r
  | own t pos =>
    obtain ⟨n, sz, hne, hsz, hn, hp, hl, hc⟩ := r
    obtain ⟨n', e', l', t'⟩ := h.fr t n hn
    refine ⟨n', sz, hne, hsz, e', by omega, hl, fun e => ?_⟩
    rw [t' (by omega)]
    exact hc (by omega)

theorem VR.mono {G G' : Gh} (h : Gle G G') {a : AV} {v : Value} (r : VR G a v) : VR G' a v := by
  refine VR.rec (motive_1 := fun a v _ => VR G' a v) (motive_2 := fun l m _ => VRL G' l m) (motive_3 := fun l b o _ => VRI G' l b o)
    ?_ ?_ ?_ ?_ ?_ ?_ ?_ ?_ ?_ ?_ ?_ ?_ ?_ ?_ ?_ ?_ ?_ ?_ ?_ ?_ r
  · exact fun v => .junk v
  · exact .undef
  · exact fun b => .bool b
  · exact fun k n => .int k n
  · exact fun bs => .str bs
  · exact fun cs vs _ ih => .agg cs vs ih
  · exact fun cs vs _ ih => .tup cs vs ih
  · exact .nilp
  · exact fun cs b o _ ih => .ref cs b o ih
  · exact fun dep d ver off b hb => .loc dep d ver off b (h.nu _ _ _ hb)
  · exact fun id off b hb => .ptr id off b (h.phi _ _ hb)
  · exact fun f first cap fv cv _ _ ih1 ih2 => .fn f first cap fv cv ih1 ih2
  · exact fun t a v _ ih => .iface t a v ih
  · exact .nilif
  · exact fun tok ad ht => .nils tok ad ht
  · exact fun es tok fl b o cap sz h1 h2 _ h4 h5 ih => .slice es tok fl b o cap sz h1 h2 ih (h4.mono h) h5
  · exact .nil
  · exact fun a v l m _ _ ih1 ih2 => .cons a v l m ih1 ih2
  · exact fun b o => .nil b o
  · exact fun a v l b o hI _ _ ih1 ih2 => .cons a v l b o (h.I _ _ _ hI) ih1 ih2
theorem VRL.mono {G G' : Gh} (h : Gle G G') {l : List AV} {m : List Value} (r : VRL G l m) : VRL G' l m := by
  induction l generalizing m with
  | nil => cases r; exact .nil
  | cons a l ih => cases r with | cons _ v _ m ha hl => exact .cons _ _ _ _ (ha.mono h) (ih hl)
theorem VRI.mono {G G' : Gh} (h : Gle G G') {l : List AV} {b o : Nat} (r : VRI G l b o) : VRI G' l b o := by
  induction l generalizing o with
  | nil => exact .nil b o
  | cons a l ih => cases r with | cons _ v _ _ _ hI ha hl => exact .cons _ _ _ _ _ (h.I _ _ _ hI) (ha.mono h) (ih hl)

theorem VRL.length {G : Gh} {l : List AV} {m : List Value} (r : VRL G l m) : m.length = l.length := by
  induction l generalizing m with
  | nil => cases r; rfl
  | cons a l ih => cases r with | cons _ v _ m ha hl => simp [ih hl]
theorem VRL.get {G : Gh} {l : List AV} {m : List Value} (r : VRL G l m) {i : Nat} {a : AV} (h : l[i]? = some a) : ∃ v, m[i]? = some v ∧ VR G a v := by
  induction l generalizing m i with
  | nil => simp at h
  | cons x l ih =>
    cases r with
    | cons _ v _ m ha hl =>
      cases i with
      | zero => simp at h; subst h; exact ⟨v, by simp, ha⟩
      | succ i => simpa using ih hl (by simpa using h)
theorem VRL.append {G : Gh} {l l' : List AV} {m m' : List Value} (r : VRL G l m) (r' : VRL G l' m') : VRL G (l ++ l') (m ++ m') := by
  induction l generalizing m with
  | nil => cases r; exact r'
  | cons a l ih => cases r with | cons _ v _ m ha hl => exact .cons _ _ _ _ ha (ih hl)
theorem VRL.take {G : Gh} {l : List AV} {m : List Value} (r : VRL G l m) (n : Nat) : VRL G (l.take n) (m.take n) := by
  induction l generalizing m n with
  | nil => cases r; simp; exact .nil
  | cons a l ih =>
    cases r with
    | cons _ v _ m ha hl =>
      cases n with
      | zero => simp; exact .nil
      | succ n => simp; exact .cons _ _ _ _ ha (ih hl n)
theorem VRL.drop {G : Gh} {l : List AV} {m : List Value} (r : VRL G l m) (n : Nat) : VRL G (l.drop n) (m.drop n) := by
  induction l generalizing m n with
  | nil => cases r; simp; exact .nil
  | cons a l ih =>
    cases r with
    | cons _ v _ m ha hl =>
      cases n with
      | zero => simp; exact .cons _ _ _ _ ha hl
      | succ n => simpa using ih hl n
theorem VRL.map {G : Gh} {α : Type} {f : α → AV} {g : α → Value} (l : List α) (h : ∀ x ∈ l, VR G (f x) (g x)) : VRL G (l.map f) (l.map g) := by
  induction l with
  | nil => exact .nil
  | cons a l ih => exact .cons _ _ _ _ (h a (by simp)) (ih fun x hx => h x (by simp [hx]))
theorem VRI.append {G : Gh} {l l' : List AV} {b o : Nat} (r : VRI G l b o) (r' : VRI G l' b (o + l.length)) : VRI G (l ++ l') b o := by
  induction l generalizing o with
  | nil => exact r'
  | cons a l ih =>
    cases r with
    | cons _ v _ _ _ hI ha hl => exact .cons _ _ _ _ _ hI ha (ih hl (by simpa [Nat.add_assoc, Nat.add_comm 1] using r'))
theorem VRI.left {G : Gh} {l l' : List AV} {b o : Nat} (r : VRI G (l ++ l') b o) : VRI G l b o := by
  induction l generalizing o with
  | nil => exact .nil b o
  | cons a l ih => cases r with | cons _ v _ _ _ hI ha hl => exact .cons _ _ _ _ _ hI ha (ih hl)
theorem VRI.right {G : Gh} {l l' : List AV} {b o : Nat} (r : VRI G (l ++ l') b o) : VRI G l' b (o + l.length) := by
  induction l generalizing o with
  | nil => exact r
  | cons a l ih => cases r with | cons _ v _ _ _ hI ha hl => simpa [Nat.add_assoc, Nat.add_comm 1] using ih hl
theorem VRI.drop {G : Gh} {l : List AV} {b o : Nat} (r : VRI G l b o) (n : Nat) (hn : n ≤ l.length) : VRI G (l.drop n) b (o + n) := by
  have h : VRI G (l.take n ++ l.drop n) b o := by rwa [List.take_append_drop]
  have := h.right
  rwa [List.length_take, Nat.min_eq_left hn] at this
theorem VRI.drop' {G : Gh} {l : List AV} {b o : Nat} (r : VRI G l b o) (n : Nat) : VRI G (l.drop n) b (o + n) := by
  rcases Nat.lt_or_ge l.length n with h | h
  · rw [List.drop_eq_nil_of_le (by omega)]; exact .nil _ _
  · exact r.drop n h
theorem VRI.take {G : Gh} {l : List AV} {b o : Nat} (r : VRI G l b o) (n : Nat) : VRI G (l.take n) b o := by
  have h : VRI G (l.take n ++ l.drop n) b o := by rwa [List.take_append_drop]
  exact h.left
theorem VRI.get {G : Gh} {l : List AV} {b o : Nat} (r : VRI G l b o) {i : Nat} {a : AV} (h : l[i]? = some a) : ∃ v, G.I b (o + i) = some v ∧ VR G a v := by
  induction l generalizing o i with
  | nil => simp at h
  | cons x l ih =>
    cases r with
    | cons _ v _ _ _ hI ha hl =>
      cases i with
      | zero => simp at h; subst h; exact ⟨v, by simpa using hI, ha⟩
      | succ i => simpa [Nat.add_assoc, Nat.add_comm 1] using ih hl (by simpa using h)
/-- the values in the cells -/
theorem VRI.vals {G : Gh} {l : List AV} {b o : Nat} (r : VRI G l b o) : ∃ vs : List Value, VRL G l vs ∧ ∀ i v, vs[i]? = some v → G.I b (o + i) = some v := by
  induction l generalizing o with
  | nil => exact ⟨[], .nil, by simp⟩
  | cons a l ih =>
    cases r with
    | cons _ v _ _ _ hI ha hl =>
      obtain ⟨vs, h1, h2⟩ := ih hl
      refine ⟨v :: vs, .cons _ _ _ _ ha h1, fun i x hx => ?_⟩
      cases i with
      | zero => simp at hx; subst hx; simpa using hI
      | succ i => have := h2 i x (by simpa using hx); simpa [Nat.add_assoc, Nat.add_comm 1] using this
theorem VRI.of_vals {G : Gh} {l : List AV} {vs : List Value} (r : VRL G l vs) {b o : Nat} (h : ∀ i v, vs[i]? = some v → G.I b (o + i) = some v) : VRI G l b o := by
  induction l generalizing vs o with
  | nil => exact .nil b o
  | cons a l ih =>
    cases r with
    | cons _ v _ m ha hl =>
      refine .cons _ _ _ _ _ (by simpa using h 0 v (by simp)) ha (ih hl fun i x hx => ?_)
      have := h (i + 1) x (by simpa using hx)
      simpa [Nat.add_assoc, Nat.add_comm 1] using this

/-! ### cells -/
def oneV (v : Value) : Bool := match v with | .agg _ => false | .tuple _ => false | _ => true
theorem VR.one {G : Gh} {a : AV} {v : Value} (r : VR G a v) (h : a.isCell = true) : oneV v = true := by
  cases r <;> first | rfl | simp [AV.isCell] at h
theorem VR.cells {G : Gh} {a : AV} {v : Value} (r : VR G a v) {cs : List AV} (h : a.cells? = some cs) : VRL G cs v.cells.toList ∧ (∀ x ∈ v.cells.toList, oneV x = true) ∧ (∀ x ∈ cs, x.isCell = true) := by
  have one : ∀ (a : AV) (v : Value), VR G a v → a.isCell = true → VRL G [a] #[v].toList ∧ (∀ x ∈ #[v].toList, oneV x = true) ∧ (∀ x ∈ [a], x.isCell = true) := fun a v r hc =>
    ⟨.cons _ _ _ _ r .nil, by simp [r.one hc], by simp [hc]⟩
  cases a with
  | agg cs' =>
    simp only [AV.cells?] at h
    split at h
    · rename_i hall
      cases h
      cases r with
      | agg _ vs hl =>
        refine ⟨hl, ?_, by simpa using hall⟩
        show ∀ x ∈ vs.toList, oneV x = true
        intro x hx
        obtain ⟨i, hi⟩ := List.mem_iff_getElem?.1 hx
        have hlen := hl.length
        have hi' : i < cs.length := by
          have := (List.getElem?_eq_some_iff.1 hi).1; omega
        obtain ⟨w, hw, hr⟩ := hl.get (List.getElem?_eq_getElem hi')
        rw [hi] at hw
        cases hw
        exact hr.one ((List.all_eq_true.1 hall) _ (List.getElem_mem hi'))
    · cases h
  | junk => simp [AV.cells?] at h
  | undef => simp [AV.cells?] at h
  | tup cs' => simp [AV.cells?] at h
  | _ => simp only [AV.cells?, Option.some.injEq] at h; subst h; (have hv := one _ v r rfl); cases r <;> exact hv

theorem flatQ_append {a b : List AV} {x y : List AV} (h : flatQ a = some x) (k : flatQ b = some y) : flatQ (a ++ b) = some (x ++ y) := by
  induction a generalizing x with
  | nil => simp [flatQ] at h; subst h; simpa using k
  | cons e es ih =>
    simp only [flatQ] at h
    split at h
    · rename_i cs l hc hl
      cases h
      simp [flatQ, hc, ih hl, List.append_assoc]
    · cases h
theorem flatQ_split {a b : List AV} {z : List AV} (h : flatQ (a ++ b) = some z) : ∃ x y, flatQ a = some x ∧ flatQ b = some y ∧ z = x ++ y := by
  induction a generalizing z with
  | nil => exact ⟨[], z, rfl, h, rfl⟩
  | cons e es ih =>
    simp only [List.cons_append, flatQ] at h
    split at h
    · rename_i cs l hc hl
      cases h
      obtain ⟨x, y, h1, h2, rfl⟩ := ih hl
      exact ⟨cs ++ x, y, by simp [flatQ, hc, h1], h2, by simp⟩
    · cases h
theorem flatQ_len {l : List AV} {fl : List AV} (h : flatQ l = some fl) {sz : Nat} (hs : ∀ e ∈ l, ∀ cs, e.cells? = some cs → cs.length = sz) : fl.length = l.length * sz := by
  induction l generalizing fl with
  | nil => simp [flatQ] at h; subst h; simp
  | cons e es ih =>
    simp only [flatQ] at h
    split at h
    · rename_i cs l hc hl
      cases h
      have := ih hl fun e he => hs e (by simp [he])
      have := hs e (by simp) cs hc
      simp [*, Nat.add_mul]; omega
    · cases h
theorem sizesOk_mem {n : Nat} {l : List AV} : sizesOk n l = true ↔ ∀ e ∈ l, ∃ cs, e.cells? = some cs ∧ cs.length = n := by
  induction l with
  | nil => simp [sizesOk]
  | cons a l ih =>
    simp only [sizesOk, Bool.and_eq_true, ih, List.mem_cons, forall_eq_or_imp]
    cases a.cells? with
    | none => simp
    | some cs => simp
theorem sizesOk_append {n : Nat} {l m : List AV} : sizesOk n (l ++ m) = (sizesOk n l && sizesOk n m) := by
  induction l with
  | nil => simp [sizesOk]
  | cons a l ih => simp [sizesOk, ih, Bool.and_assoc]
theorem flatQ_sizes {n : Nat} {l : List AV} (h : sizesOk n l = true) : ∃ fl, flatQ l = some fl ∧ fl.length = l.length * n := by
  induction l with
  | nil => exact ⟨[], rfl, by simp⟩
  | cons a l ih =>
    obtain ⟨cs, h1, h2⟩ := sizesOk_mem.1 h a (by simp)
    simp only [sizesOk, Bool.and_eq_true] at h
    obtain ⟨fl, h3, h4⟩ := ih h.2
    exact ⟨cs ++ fl, by simp [flatQ, h1, h3], by simp [h2, h4, Nat.add_mul]; omega⟩
theorem flatQ_len' {l fl : List AV} (h : flatQ l = some fl) {n : Nat} (hs : sizesOk n l = true) : fl.length = l.length * n := by
  obtain ⟨x, h1, h2⟩ := flatQ_sizes hs
  rw [h] at h1; cases h1; exact h2
/-- the i-th element's cells, in the row -/
theorem VRI.elem {G : Gh} {l fl : List AV} {n b o i : Nat} {a : AV} {cs : List AV} (h : flatQ l = some fl) (hs : sizesOk n l = true) (hv : VRI G fl b o) (ha : l[i]? = some a) (hc : a.cells? = some cs) : VRI G cs b (o + i * n) := by
  induction l generalizing fl i o with
  | nil => simp at ha
  | cons x l ih =>
    obtain ⟨c, h1, h2⟩ := sizesOk_mem.1 hs x (by simp)
    simp only [sizesOk, Bool.and_eq_true] at hs
    simp only [flatQ, h1] at h
    split at h
    · rename_i c' m e1 e2
      cases e1
      cases h
      cases i with
      | zero => simp at ha; subst ha; rw [h1] at hc; cases hc; simpa using hv.left
      | succ i =>
        have := ih e2 hs.2 hv.right (by simpa using ha)
        rw [h2] at this
        rwa [show o + (i + 1) * n = o + n + i * n by rw [Nat.add_mul]; omega]
    · cases h
theorem flatQ_isCell {l : List AV} {fl : List AV} (h : flatQ l = some fl) : ∀ x ∈ fl, x.isCell = true := by
  induction l generalizing fl with
  | nil => simp [flatQ] at h; subst h; simp
  | cons e es ih =>
    simp only [flatQ] at h
    split at h
    · rename_i cs l hc hl
      cases h
      intro x hx
      rcases List.mem_append.1 hx with hx | hx
      · cases e <;> simp only [AV.cells?] at hc <;> first | (cases hc; simp at hx; subst hx; rfl) | (split at hc <;> simp_all) | cases hc
      · exact ih hl x hx
    · cases h

/-! ### constants -/
theorem ofC0_VR (G : Gh) (v : Value) : VR G (ofC0 v) v := by
  unfold ofC0
  split <;> first | exact .bool _ | exact .int _ _ | exact .str _ | exact .nilp | exact .nils _ _ (by simp) | exact .nilif | exact .junk _
theorem ofC_VR (G : Gh) (v : Value) : VR G (ofC v) v := by
  unfold ofC
  split
  · rename_i cs
    refine .agg _ _ ?_
    have := VRL.map (G := G) (f := ofC0) (g := id) cs.toList fun x _ => ofC0_VR G x
    simpa using this
  · exact ofC0_VR G v
end Go.Proofs.Ytemggoaefohliaa.AE
