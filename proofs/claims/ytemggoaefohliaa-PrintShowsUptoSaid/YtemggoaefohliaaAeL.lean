/- A region that draws its order: one evaluation, in the order of the text, serves every order. Condition of the check 'drawOk': what is in no order touches nothing in common. -/
import Derived.Test.YtemggoaefohliaaAeK
namespace Go.Proofs.Ytemggoaefohliaa.AE
set_option linter.unusedVariables false
set_option linter.unusedSimpArgs false
open Go Go.RowKit

theorem stepA_local {cx : Ctx} {call : Cal} {ops : Array Oper} {i : Nat} {o : Oper} {s u s' : FS} {fp : FP} (h : stepA cx call ops i o s = some (.ok s' fp)) (hc : u.c = s.c) (ht : ∀ x ∈ o.looksAt ops, u.t x = s.t x)
    (hb : ∀ d, fp = .rl d ∨ fp = .wl d → u.b d = s.b d) (hS : fp = .rh ∨ fp = .wh → u.S = s.S) :
    ∃ v, s'.t = putA s.t o.dst v ∧ s'.c = s.c ∧ (∀ e, fp ≠ .wl e → s'.b e = s.b e) ∧ (fp ≠ .wh → s'.S = s.S) ∧ (quietK o = true → fp = .non) ∧
      ∃ u', stepA cx call ops i o u = some (.ok u' fp) ∧ u'.t = putA u.t o.dst v ∧ u'.c = u.c ∧ (∀ e, fp = .wl e → u'.b e = s'.b e) ∧ (∀ e, fp ≠ .wl e → u'.b e = u.b e) ∧ (fp = .wh → u'.S = s'.S) ∧ (fp ≠ .wh → u'.S = u.S) := by
  have hops : ∀ x ∈ o.op.operands, rho u.t x = rho s.t x := fun x hx => by
    cases x with
    | tmp y =>
      refine ht y ?_
      unfold Oper.looksAt
      refine List.mem_append_left _ (List.mem_filterMap.2 ⟨.tmp y, by simpa using hx, rfl⟩)
    | _ => rfl
  have hw : wantedA o.guard ops u.t = wantedA o.guard ops s.t := by
    unfold wantedA
    cases hg : o.guard with
    | none => rfl
    | some p =>
      obtain ⟨j, want⟩ := p
      simp only
      cases hd : (ops[j]?).bind (·.dst) with
      | none => rfl
      | some d =>
        simp only
        rw [ht d (by unfold Oper.looksAt; refine List.mem_append_right _ ?_; rw [hg]; simp [hd])]
  unfold stepA at h
  split at h
  · rename_i hwant
    split at h
    · rename_i v b S fp' hev
      cases h
      obtain ⟨⟨b', S', e1, e2, e3, e4, e5⟩, f1, f2, f3⟩ := evOp_local hev hc hops hb hS
      refine ⟨v, rfl, rfl, f1, f2, f3, ⟨putA u.t o.dst v, b', u.c, S'⟩, ?_, rfl, rfl, e2, e3, e4, e5⟩
      unfold stepA
      simp only [hw, hwant, e1]
    · cases h
    · cases h
  · rename_i hwant
    cases h
    refine ⟨.undef, rfl, rfl, fun _ _ => rfl, fun _ => rfl, fun _ => rfl, ⟨putA u.t o.dst .undef, u.b, u.c, u.S⟩, ?_, rfl, rfl, (fun e h => by cases h), fun _ _ => rfl, (fun h => by cases h), fun _ => rfl⟩
    unfold stepA
    simp only [hw, hwant]
  · cases h

/-! ### the check -/
def ordB (ops : Array Oper) (B : Array Nat) (i j : Nat) : Bool :=
  match ops[i]? with
  | some o => o.after.any fun e => Region.binds .any e && (e.on == j || (decide (j < e.on) && (B.getD e.on 0).testBit j))
  | none => false
def pairOk (ps : List (Nat × Nat)) (ops : Array Oper) (B : Array Nat) (i j : Nat) : Bool :=
  if (B.getD i 0).testBit j then ordB ops B i j
  else match ops[j]?, ops[i]? with
    | some x, some y => Oper.apart ops x y && Oper.apart ops y x && (quietK x || quietK y || ps.contains (j, i))
    | _, _ => false
def edgesOk (ops : Array Oper) (i : Nat) : Bool :=
  match ops[i]? with
  | some o => o.after.all fun e => !Region.binds .any e || decide (e.on < i)
  | none => false
def drawOk (ops : Array Oper) (ps : List (Nat × Nat)) : Bool :=
  (List.range ops.size).all fun i => edgesOk ops i && (List.range i).all fun j => pairOk ps ops (Region.before ops) i j

structure Drawn (ops : Array Oper) (ps : List (Nat × Nat)) (B : Array Nat) : Prop where
  edge : ∀ (i : Nat) o, ops[i]? = some o → ∀ e ∈ o.after, Region.binds .any e = true → e.on < i
  pair : ∀ i j, j < i → i < ops.size → pairOk ps ops B i j = true
theorem drawOk_spec {ops : Array Oper} {ps : List (Nat × Nat)} (h : drawOk ops ps = true) : Drawn ops ps (Region.before ops) := by
  unfold drawOk at h
  simp only [List.all_eq_true, List.mem_range, Bool.and_eq_true] at h
  refine ⟨fun i o ho e he hb => ?_, fun i j hj hi => (h i hi).2 j hj⟩
  have hi : i < ops.size := (Array.getElem?_eq_some_iff.1 ho).1
  have h1 := (h i hi).1
  unfold edgesOk at h1
  simp only [ho] at h1
  have h2 := (Array.all_eq_true'.1 h1) e he
  simpa [hb] using h2

/-- listed operations: with what stands ahead of each -/
def Closed (ops : Array Oper) (L : Nat → Prop) : Prop := ∀ (i : Nat) o, ops[i]? = some o → L i → ∀ e ∈ o.after, Region.binds .any e = true → L e.on
theorem Closed.bit {ops : Array Oper} {ps : List (Nat × Nat)} {B : Array Nat} (hd : Drawn ops ps B) {L : Nat → Prop} (hc : Closed ops L) : ∀ (n i j : Nat), i ≤ n → i < ops.size → j < i → (B.getD i 0).testBit j = true → (∀ o, ops[i]? = some o → ∀ e ∈ o.after, Region.binds .any e = true → L e.on) → L j := by
  intro n
  induction n with
  | zero => intro i j hi _ hj; omega
  | succ n ih =>
    intro i j hi hlt hj hbit hL
    have hp := hd.pair i j hj hlt
    unfold pairOk at hp
    rw [if_pos hbit] at hp
    unfold ordB at hp
    split at hp
    · rename_i o ho
      obtain ⟨e, he, hcond⟩ := Array.any_eq_true'.1 hp
      simp only [Bool.and_eq_true, Bool.or_eq_true, beq_iff_eq, decide_eq_true_eq] at hcond
      obtain ⟨hb, hcase⟩ := hcond
      have hLe := hL o ho e he hb
      rcases hcase with rfl | ⟨h1, h2⟩
      · exact hLe
      · have hei := hd.edge i o ho e he hb
        exact ih e.on j (by omega) (by omega) h1 h2 fun o' ho' e' he' hb' => hc e.on o' ho' hLe e' he' hb'
    · cases hp

/-! ### the states on the way -/
theorem lexF_trace {cx : Ctx} {call : Cal} {ops : Array Oper} : ∀ (l : List Oper) (i : Nat) (fs : FS) (acc : List FP) (fs' : FS) (fps : List FP), lexF cx call ops i l fs acc = some (fs', fps) →
    ∃ (st : Nat → FS) (fp : Nat → FP), st i = fs ∧ st (i + l.length) = fs' ∧ fps = acc ++ (List.range' i l.length).map fp ∧ ∀ (k : Nat) o, l[k]? = some o → stepA cx call ops (i + k) o (st (i + k)) = some (.ok (st (i + k + 1)) (fp (i + k)))
  | [], i, fs, acc, fs', fps, h => by
    cases h
    exact ⟨fun _ => fs, fun _ => .non, rfl, rfl, by simp, by simp⟩
  | o :: l, i, fs, acc, fs', fps, h => by
    simp only [lexF] at h
    split at h
    · rename_i fs1 fp1 hs
      obtain ⟨st, fp, h1, h2, h3, h4⟩ := lexF_trace l (i + 1) fs1 (acc ++ [fp1]) fs' fps h
      refine ⟨fun n => if n = i then fs else st n, fun n => if n = i then fp1 else fp n, by simp, ?_, ?_, fun k o' hk => ?_⟩
      · have : i + (l.length + 1) ≠ i := by omega
        simp only [List.length_cons, this, if_false]
        rw [← h2]; congr 1; omega
      · rw [h3, List.length_cons, List.range'_succ, List.map_cons, if_pos rfl, List.append_assoc]
        congr 1
        show fp1 :: _ = fp1 :: _
        congr 1
        refine List.map_congr_left fun n hn => ?_
        obtain ⟨m, _, rfl⟩ := List.mem_range'.1 hn
        rw [if_neg (by omega)]
      · cases k with
        | zero =>
          simp at hk
          subst hk
          simp only [Nat.add_zero, if_true, if_neg (show i + 1 ≠ i by omega), h1, hs]
        | succ k =>
          have := h4 k o' (by simpa using hk)
          have e1 : i + (k + 1) ≠ i := by omega
          have e2 : i + (k + 1) + 1 ≠ i := by omega
          simp only [e1, e2, if_false]
          rw [show i + (k + 1) = i + 1 + k by omega]
          exact this
    · cases h

open Classical in
/-- the value behind the last of those that p picks -/
noncomputable def lastv {α : Type} (p : Nat → Prop) (f : Nat → α) : Nat → α
  | 0 => f 0
  | k + 1 => if p k then f (k + 1) else lastv p f k
theorem lastv_eq {α : Type} {p W : Nat → Prop} {f : Nat → α} {m i : Nat} (hi : i ≤ m) (hconst : ∀ k, k < m → ¬ W k → f (k + 1) = f k) (hb : ∀ k, k < i → W k → p k) (ha : ∀ k, i ≤ k → k < m → ¬ p k) : lastv p f m = f i := by
  have up : ∀ k, k ≤ i → lastv p f k = f k := by
    intro k
    induction k with
    | zero => intro _; rfl
    | succ k ih =>
      intro hk
      unfold lastv
      split
      · rfl
      · rename_i hp
        rw [ih (by omega), hconst k (by omega) fun hw => hp (hb k (by omega) hw)]
  have down : ∀ k, i ≤ k → k ≤ m → lastv p f k = lastv p f i := by
    intro k
    induction k with
    | zero => intro h _; rw [Nat.le_zero.1 h]
    | succ k ih =>
      intro h1 h2
      rcases Nat.eq_or_lt_of_le h1 with h | h
      · rw [h]
      · rw [← ih (by omega) (by omega)]
        rw [lastv, if_neg (ha k (by omega) (by omega))]
  rw [down m hi (Nat.le_refl _), up i (Nat.le_refl _)]
theorem lastv_congr {α : Type} {p q : Nat → Prop} {f : Nat → α} {m : Nat} (h : ∀ k, k < m → (p k ↔ q k)) : lastv p f m = lastv q f m := by
  induction m with
  | zero => rfl
  | succ m ih =>
    unfold lastv
    rw [ih fun k hk => h k (by omega)]
    by_cases hp : p m
    · rw [if_pos hp, if_pos ((h m (by omega)).1 hp)]
    · rw [if_neg hp, if_neg fun hq => hp ((h m (by omega)).2 hq)]

/-- the frame when just those of L have been done -/
noncomputable def stateAt (ops : Array Oper) (st : Nat → FS) (fp : Nat → FP) (L : Nat → Prop) : FS where
  t x := lastv (fun k => L k ∧ (ops[k]?).bind (·.dst) = some x) (fun n => (st n).t x) ops.size
  b d := lastv (fun k => L k ∧ fp k = .wl d) (fun n => (st n).b d) ops.size
  c := (st 0).c
  S := lastv (fun k => L k ∧ fp k = .wh) (fun n => (st n).S) ops.size

theorem looksAt_apart {ops : Array Oper} {x y : Oper} (h : Oper.apart ops x y = true) {d : Tmp} (hd : x.dst = some d) : d ∉ y.looksAt ops ∧ y.dst ≠ some d := by
  unfold Oper.apart at h
  rw [hd] at h
  simp only [Bool.and_eq_true, Bool.not_eq_true', bne_iff_ne, ne_eq] at h
  refine ⟨fun hm => ?_, h.1.2⟩
  have := h.1.1
  rw [List.contains_iff_mem.2 hm] at this
  cases this

theorem noClash_spec {fps : List FP} {ps : List (Nat × Nat)} (h : noClash fps ps = true) {i j : Nat} (hm : (i, j) ∈ ps) : ∃ a b, fps[i]? = some a ∧ fps[j]? = some b ∧ FP.clash a b = false := by
  induction ps with
  | nil => cases hm
  | cons p ps ih =>
    obtain ⟨x, y⟩ := p
    simp only [noClash, Bool.and_eq_true] at h
    rcases List.mem_cons.1 hm with e | e
    · cases e
      have := h.1
      split at this
      · rename_i a b e1 e2
        exact ⟨a, b, e1, e2, by simpa using this⟩
      · cases this
    · exact ih h.2 e

/-- listed: as the model's array says -/
def Ls (listed : Array Bool) (k : Nat) : Prop := listed.getD k false = true

theorem draw_sound {F : Fix} {nt : Nat} {call : Cal} {ops : Array Oper} {ps : List (Nat × Nat)} {fs fs' : FS} {fps : List FP} {G : Gh} {a : Act} {w : World} {id : Nat} (hm : F.cx.P.follows .mixedOrders = true)
    (hd : ∀ (i : Nat) o, ops[i]? = some o → ∀ d, o.dst = some d → d < nt) (hc : CalOK F.cx.P call F.cx.dep) (hok : drawOk ops ps = true) (h : FR F nt (fun _ => False) fs G a w)
    (hs : lexF F.cx call ops 0 ops.toList fs [] = some (fs', fps)) (hcl : noClash fps ps = true) {Q : Exit → Act → World → Prop}
    (hq : ∀ G' a' w', FR F nt (fun j => j < ops.size) fs' G' a' w' → Q .normal a' w') : (Code.region id ops true).wp F.cx.P Q a w := by
  have hD := drawOk_spec hok
  obtain ⟨st, fp, h1, h2, h3, h4⟩ := lexF_trace ops.toList 0 fs [] fs' fps hs
  simp only [Nat.zero_add, Array.length_toList, List.nil_append] at h2 h3 h4
  have hfp : ∀ k, k < ops.size → fps[k]? = some (fp k) := fun k hk => by
    rw [h3, List.getElem?_map, List.getElem?_range' hk]; simp
  -- each step, as it stands in the text
  have step : ∀ (k : Nat) o, ops[k]? = some o → stepA F.cx call ops k o (st k) = some (.ok (st (k + 1)) (fp k)) := fun k o hk => h4 k o (by simpa using hk)
  have hself : ∀ (k : Nat) o, ops[k]? = some o → (∃ v, (st (k + 1)).t = putA (st k).t o.dst v) ∧ (st (k + 1)).c = (st k).c ∧ (∀ e, fp k ≠ .wl e → (st (k + 1)).b e = (st k).b e) ∧ (fp k ≠ .wh → (st (k + 1)).S = (st k).S) ∧ (quietK o = true → fp k = .non) := fun k o hk => by
    obtain ⟨v, e1, e2, e3, e4, e5, _⟩ := stepA_local (step k o hk) rfl (fun _ _ => rfl) (fun _ _ => rfl) (fun _ => rfl)
    exact ⟨⟨v, e1⟩, e2, e3, e4, e5⟩
  have hget : ∀ k, k < ops.size → ∃ o, ops[k]? = some o := fun k hk => ⟨ops[k], by simp [hk]⟩
  have hcc : ∀ k, k ≤ ops.size → (st k).c = (st 0).c := by
    intro k
    induction k with
    | zero => intro _; rfl
    | succ k ih => intro hk; obtain ⟨o, ho⟩ := hget k (by omega); rw [(hself k o ho).2.1, ih (by omega)]
  have tconst : ∀ x k, k < ops.size → ¬ ((ops[k]?).bind (·.dst) = some x) → (st (k + 1)).t x = (st k).t x := fun x k hk hn => by
    obtain ⟨o, ho⟩ := hget k hk
    obtain ⟨v, e⟩ := (hself k o ho).1
    rw [e]
    cases hdst : o.dst with
    | none => rfl
    | some d =>
      have : x ≠ d := fun hx => hn (by simp [ho, hdst, hx])
      simp [putA, upd, this]
  have bconst : ∀ d k, k < ops.size → ¬ (fp k = .wl d) → (st (k + 1)).b d = (st k).b d := fun d k hk hn => by
    obtain ⟨o, ho⟩ := hget k hk; exact (hself k o ho).2.2.1 d hn
  have Sconst : ∀ k, k < ops.size → ¬ (fp k = .wh) → (st (k + 1)).S = (st k).S := fun k hk hn => by
    obtain ⟨o, ho⟩ := hget k hk; exact (hself k o ho).2.2.2.1 hn
  -- two that clash are in order
  have ordered : ∀ i j oi oj, j < i → ops[i]? = some oi → ops[j]? = some oj → ((∃ d, oj.dst = some d ∧ (d ∈ oi.looksAt ops ∨ oi.dst = some d)) ∨ (∃ d, oi.dst = some d ∧ d ∈ oj.looksAt ops) ∨ FP.clash (fp j) (fp i) = true) →
      ((Region.before ops).getD i 0).testBit j = true := fun i j oi oj hji hi hj hcase => by
    have hilt := (Array.getElem?_eq_some_iff.1 hi).1
    have hp := hD.pair i j hji hilt
    unfold pairOk at hp
    split at hp
    · assumption
    · rw [hi, hj] at hp
      simp only [Bool.and_eq_true, Bool.or_eq_true] at hp
      obtain ⟨⟨p1, p2⟩, p3⟩ := hp
      exfalso
      rcases hcase with ⟨d, c1, c2⟩ | ⟨d, c1, c2⟩ | c
      · have := looksAt_apart p1 c1
        rcases c2 with c2 | c2
        · exact this.1 c2
        · exact this.2 c2
      · exact (looksAt_apart p2 c1).1 c2
      · rcases p3 with (p3 | p3) | p3
        · rw [(hself j oj hj).2.2.2.2 p3] at c
          cases hfi : fp i <;> rw [hfi] at c <;> simp [FP.clash] at c
        · rw [(hself i oi hi).2.2.2.2 p3] at c
          cases hfj : fp j <;> rw [hfj] at c <;> simp [FP.clash] at c
        · obtain ⟨x, y, e1, e2, e3⟩ := noClash_spec hcl (List.contains_iff_mem.1 p3)
          rw [hfp j (by omega)] at e1
          rw [hfp i hilt] at e2
          cases e1; cases e2
          rw [c] at e3; cases e3
  refine wp_region_any hm ?_
  have main : ∀ (fuel : Nat) (listed : Array Bool) (G : Gh) (a : Act) (w : World), listed.size = ops.size → Closed ops (Ls listed) →
      (List.range ops.size).countP (fun k => !listed.getD k false) ≤ fuel → FR F nt (Ls listed) (stateAt ops st fp (Ls listed)) G a w → wpAny F.cx.P .any ops Q fuel listed a w := by
    have fin : ∀ (listed : Array Bool) (G : Gh) (a : Act) (w : World), listed.size = ops.size → Closed ops (Ls listed) → Region.ready .any ops listed = [] → FR F nt (Ls listed) (stateAt ops st fp (Ls listed)) G a w → Q .normal a w := by
      intro listed G a w hsz hclo hr hfr
      have all : ∀ k, k < ops.size → Ls listed k := by
        intro k
        induction k using Nat.strongRecOn with
        | _ k ih =>
          intro hk
          obtain ⟨o, ho⟩ := hget k hk
          by_cases hl : Ls listed k
          · exact hl
          · exfalso
            have : k ∈ Region.ready .any ops listed := mem_ready.2 ⟨by
              unfold Ls at hl
              rw [Array.getD_eq_getD_getElem?] at hl ⊢
              cases hh : listed[k]? with
              | none => rw [Array.getElem?_eq_none_iff] at hh; omega
              | some b => rw [hh] at hl; simpa using hl, o, ho, fun e he hb => ih e.on (hD.edge k o ho e he hb) (by have := hD.edge k o ho e he hb; omega)⟩
            rw [hr] at this; cases this
      have hst : stateAt ops st fp (Ls listed) = fs' := by
        rw [← h2]
        have e1 : ∀ x, (stateAt ops st fp (Ls listed)).t x = (st ops.size).t x := fun x =>
          lastv_eq (W := fun k => (ops[k]?).bind (·.dst) = some x) (Nat.le_refl _) (tconst x) (fun k hk hw => ⟨all k hk, hw⟩) (fun k h1 h2 => by omega)
        have e2 : ∀ d, (stateAt ops st fp (Ls listed)).b d = (st ops.size).b d := fun d =>
          lastv_eq (W := fun k => fp k = .wl d) (Nat.le_refl _) (bconst d) (fun k hk hw => ⟨all k hk, hw⟩) (fun k h1 h2 => by omega)
        have e3 : (stateAt ops st fp (Ls listed)).S = (st ops.size).S :=
          lastv_eq (W := fun k => fp k = .wh) (Nat.le_refl _) Sconst (fun k hk hw => ⟨all k hk, hw⟩) (fun k h1 h2 => by omega)
        have e4 : (stateAt ops st fp (Ls listed)).c = (st ops.size).c := (hcc _ (Nat.le_refl _)).symm
        generalize hg : stateAt ops st fp (Ls listed) = g at *
        generalize st ops.size = s at *
        cases g; cases s
        simp only at e1 e2 e3 e4
        rw [e3, e4, funext e1, funext e2]
      rw [hst] at hfr
      refine hq G a w (hfr.weak fun j hj => ?_)
      unfold Ls at hj
      rw [Array.getD_eq_getD_getElem?] at hj
      cases hh : listed[j]? with
      | none => rw [hh] at hj; simp at hj
      | some b => have := (Array.getElem?_eq_some_iff.1 hh).1; omega
    intro fuel
    induction fuel with
    | zero =>
      intro listed G a w hsz hclo hcount hfr
      have hr : Region.ready .any ops listed = [] := by
        cases hrr : Region.ready .any ops listed with
        | nil => rfl
        | cons i l =>
          exfalso
          obtain ⟨r1, o, r2, _⟩ := mem_ready.1 (show i ∈ Region.ready .any ops listed by rw [hrr]; simp)
          have hi := (Array.getElem?_eq_some_iff.1 r2).1
          have : 0 < (List.range ops.size).countP (fun k => !listed.getD k false) := List.countP_pos_iff.2 ⟨i, by simpa using hi, by
            rw [Array.getD_eq_getD_getElem?] at r1 ⊢
            cases hh : listed[i]? with
            | none => simp
            | some b => rw [hh] at r1; simpa using r1⟩
          omega
      exact ⟨hr, fin listed G a w hsz hclo hr hfr⟩
    | succ fuel ih =>
      intro listed G a w hsz hclo hcount hfr
      refine ⟨fun hr => fin listed G a w hsz hclo hr hfr, fun i hi => ?_⟩
      obtain ⟨r1, o, r2, r3⟩ := mem_ready.1 hi
      have hilt := (Array.getElem?_eq_some_iff.1 r2).1
      have hin : ¬ Ls listed i := fun hl => by
        unfold Ls at hl
        rw [Array.getD_eq_getD_getElem?] at hl r1
        cases hh : listed[i]? with
        | none => rw [hh] at hl; simp at hl
        | some b => rw [hh] at hl r1; simp at hl r1; rw [hl] at r1; cases r1
      -- what stands ahead of i is listed; what i stands ahead of is not
      have before : ∀ j, j < i → ((Region.before ops).getD i 0).testBit j = true → Ls listed j := fun j hj hb => hclo.bit hD i i j (Nat.le_refl _) hilt hj hb fun o' ho' e he hb' => by
        rw [r2] at ho'; cases ho'; exact r3 e he hb'
      have behind : ∀ j, i < j → j < ops.size → ((Region.before ops).getD j 0).testBit i = true → ¬ Ls listed j := fun j hj hjl hb hl => hin (hclo.bit hD j j i (Nat.le_refl _) hjl hj hb fun o' ho' e he hb' => hclo j o' ho' hl e he hb')
      have tval : ∀ x, (x ∈ o.looksAt ops) → (stateAt ops st fp (Ls listed)).t x = (st i).t x := fun x hx =>
        lastv_eq (W := fun k => (ops[k]?).bind (·.dst) = some x) (Nat.le_of_lt hilt) (tconst x) (fun k hk hw => by
          obtain ⟨ok, hok⟩ := hget k (by omega)
          simp [hok] at hw
          exact ⟨before k hk (ordered i k o ok hk r2 hok (.inl ⟨x, hw, .inl hx⟩)), by simp [hok, hw]⟩) (fun k k1 k2 ⟨hl, hw⟩ => by
          rcases Nat.eq_or_lt_of_le k1 with e | e
          · rw [← e] at hl; exact hin hl
          · obtain ⟨ok, hok⟩ := hget k k2
            simp [hok] at hw
            exact behind k e k2 (ordered k i ok o e hok r2 (.inr (.inl ⟨x, hw, hx⟩))) hl)
      have bval : ∀ d, (fp i = .rl d ∨ fp i = .wl d) → (stateAt ops st fp (Ls listed)).b d = (st i).b d := fun d hx =>
        lastv_eq (W := fun k => fp k = .wl d) (Nat.le_of_lt hilt) (bconst d) (fun k hk hw => by
          obtain ⟨ok, hok⟩ := hget k (by omega)
          exact ⟨before k hk (ordered i k o ok hk r2 hok (.inr (.inr (by rcases hx with e | e <;> simp [hw, e, FP.clash])))), hw⟩) (fun k k1 k2 ⟨hl, hw⟩ => by
          rcases Nat.eq_or_lt_of_le k1 with e | e
          · rw [← e] at hl; exact hin hl
          · obtain ⟨ok, hok⟩ := hget k k2
            exact behind k e k2 (ordered k i ok o e hok r2 (.inr (.inr (by rcases hx with e' | e' <;> simp [hw, e', FP.clash])))) hl)
      have Sval : (fp i = .rh ∨ fp i = .wh) → (stateAt ops st fp (Ls listed)).S = (st i).S := fun hx =>
        lastv_eq (W := fun k => fp k = .wh) (Nat.le_of_lt hilt) Sconst (fun k hk hw => by
          obtain ⟨ok, hok⟩ := hget k (by omega)
          exact ⟨before k hk (ordered i k o ok hk r2 hok (.inr (.inr (by rcases hx with e | e <;> simp [hw, e, FP.clash])))), hw⟩) (fun k k1 k2 ⟨hl, hw⟩ => by
          rcases Nat.eq_or_lt_of_le k1 with e | e
          · rw [← e] at hl; exact hin hl
          · obtain ⟨ok, hok⟩ := hget k k2
            exact behind k e k2 (ordered k i ok o e hok r2 (.inr (.inr (by rcases hx with e' | e' <;> simp [hw, e', FP.clash])))) hl)
      obtain ⟨v, s1, s2, s3, s4, s5, u', u1, u2, u3, u4, u5, u6, u7⟩ := stepA_local (u := stateAt ops st fp (Ls listed)) (step i o r2) (hcc i (Nat.le_of_lt hilt)).symm tval bval Sval
      have hL' : ∀ k, Ls (listed.setIfInBounds i true) k ↔ Ls listed k ∨ k = i := fun k => by
        by_cases hk : k = i
        · subst hk
          simp [Ls, hsz, hilt]
        · simp only [Ls, getD_set_ne false (Ne.symm hk), hk, or_false]
      have hu : u' = stateAt ops st fp (Ls (listed.setIfInBounds i true)) := by
        have e1 : ∀ x, u'.t x = (stateAt ops st fp (Ls (listed.setIfInBounds i true))).t x := fun x => by
          rw [u2]
          by_cases hx : o.dst = some x
          · have : putA (stateAt ops st fp (Ls listed)).t o.dst v x = v := by simp [putA, hx, upd]
            rw [this]
            have e : (stateAt ops st fp (Ls (listed.setIfInBounds i true))).t x = (st (i + 1)).t x :=
              lastv_eq (W := fun k => (ops[k]?).bind (·.dst) = some x) hilt (tconst x) (fun k hk hw => by
                refine ⟨(hL' k).2 ?_, hw⟩
                by_cases hki : k = i
                · exact .inr hki
                · obtain ⟨ok, hok⟩ := hget k (by omega)
                  simp [hok] at hw
                  exact .inl (before k (by omega) (ordered i k o ok (by omega) r2 hok (.inl ⟨x, hw, .inr hx⟩)))) (fun k k1 k2 ⟨hl, hw⟩ => by
                rcases (hL' k).1 hl with hl | e
                · obtain ⟨ok, hok⟩ := hget k k2
                  simp [hok] at hw
                  exact behind k (by omega) k2 (ordered k i ok o (by omega) hok r2 (.inl ⟨x, hx, .inr hw⟩)) hl
                · omega)
            rw [e, s1]
            simp [putA, hx, upd]
          · have : putA (stateAt ops st fp (Ls listed)).t o.dst v x = (stateAt ops st fp (Ls listed)).t x := by
              cases hdst : o.dst with
              | none => rfl
              | some d =>
                have : x ≠ d := fun h' => hx (by rw [hdst, h'])
                simp [putA, upd, this]
            rw [this]
            exact lastv_congr fun k hk => by
              rw [hL']
              constructor
              · rintro ⟨h1, h2⟩; exact ⟨.inl h1, h2⟩
              · rintro ⟨h1 | h1, h2⟩
                · exact ⟨h1, h2⟩
                · subst h1; simp [r2] at h2; exact absurd h2 hx
        have e2 : ∀ d, u'.b d = (stateAt ops st fp (Ls (listed.setIfInBounds i true))).b d := fun d => by
          by_cases hx : fp i = .wl d
          · rw [u4 d hx]
            have e : (stateAt ops st fp (Ls (listed.setIfInBounds i true))).b d = (st (i + 1)).b d := (lastv_eq (W := fun k => fp k = .wl d) hilt (bconst d) (fun k hk hw => by
                refine ⟨(hL' k).2 ?_, hw⟩
                by_cases hki : k = i
                · exact .inr hki
                · obtain ⟨ok, hok⟩ := hget k (by omega)
                  exact .inl (before k (by omega) (ordered i k o ok (by omega) r2 hok (.inr (.inr (by simp [hw, hx, FP.clash])))))) (fun k k1 k2 ⟨hl, hw⟩ => by
                rcases (hL' k).1 hl with hl | e
                · obtain ⟨ok, hok⟩ := hget k k2
                  exact behind k (by omega) k2 (ordered k i ok o (by omega) hok r2 (.inr (.inr (by simp [hw, hx, FP.clash])))) hl
                · omega))
            exact e.symm
          · rw [u5 d hx]
            exact lastv_congr fun k hk => by
              rw [hL']
              constructor
              · rintro ⟨h1, h2⟩; exact ⟨.inl h1, h2⟩
              · rintro ⟨h1 | h1, h2⟩
                · exact ⟨h1, h2⟩
                · subst h1; exact absurd h2 hx
        have e3 : u'.S = (stateAt ops st fp (Ls (listed.setIfInBounds i true))).S := by
          by_cases hx : fp i = .wh
          · rw [u6 hx]
            have e : (stateAt ops st fp (Ls (listed.setIfInBounds i true))).S = (st (i + 1)).S := (lastv_eq (W := fun k => fp k = .wh) hilt Sconst (fun k hk hw => by
                refine ⟨(hL' k).2 ?_, hw⟩
                by_cases hki : k = i
                · exact .inr hki
                · obtain ⟨ok, hok⟩ := hget k (by omega)
                  exact .inl (before k (by omega) (ordered i k o ok (by omega) r2 hok (.inr (.inr (by simp [hw, hx, FP.clash])))))) (fun k k1 k2 ⟨hl, hw⟩ => by
                rcases (hL' k).1 hl with hl | e
                · obtain ⟨ok, hok⟩ := hget k k2
                  exact behind k (by omega) k2 (ordered k i ok o (by omega) hok r2 (.inr (.inr (by simp [hw, hx, FP.clash])))) hl
                · omega))
            exact e.symm
          · rw [u7 hx]
            exact lastv_congr fun k hk => by
              rw [hL']
              constructor
              · rintro ⟨h1, h2⟩; exact ⟨.inl h1, h2⟩
              · rintro ⟨h1 | h1, h2⟩
                · exact ⟨h1, h2⟩
                · subst h1; exact absurd h2 hx
        have e4 : u'.c = (stateAt ops st fp (Ls (listed.setIfInBounds i true))).c := u3
        generalize hg : stateAt ops st fp (Ls (listed.setIfInBounds i true)) = g at *
        cases g; cases u'
        simp only at e1 e2 e3 e4
        rw [e3, e4, funext e1, funext e2]
      have hstep := stepA_sound r2 hfr hin (hd i o r2) hc u1
      refine hstep _ Q fun G' a' w' hfr' => ih (listed.setIfInBounds i true) G' a' w' (by simp [hsz]) (fun j oj hj hl e he hb => ?_) ?_ ?_
      · rcases (hL' j).1 hl with hl | rfl
        · exact (hL' _).2 (.inl (hclo j oj hj hl e he hb))
        · rw [r2] at hj; cases hj; exact (hL' _).2 (.inl (r3 e he hb))
      · have : (List.range ops.size).countP (fun k => !(listed.setIfInBounds i true).getD k false) < (List.range ops.size).countP (fun k => !listed.getD k false) := by
          have e1 : (List.range ops.size).countP (fun k => !listed.getD k false) = (List.range ops.size).countP (fun k => !(listed.setIfInBounds i true).getD k false) + (List.range ops.size).countP (fun k => k == i) := by
            have gen : ∀ l : List Nat, l.countP (fun k => !listed.getD k false) = l.countP (fun k => !(listed.setIfInBounds i true).getD k false) + l.countP (fun k => k == i) := by
              intro l
              induction l with
              | nil => rfl
              | cons k l ihl =>
                simp only [List.countP_cons, ihl]
                by_cases hk : k = i
                · subst hk
                  have x1 : (listed.setIfInBounds k true).getD k false = true := (hL' k).2 (.inr rfl)
                  have x2 : listed.getD k false = false := by
                    cases hh : listed.getD k false with
                    | false => rfl
                    | true => exact absurd hh hin
                  simp [x1, x2]; omega
                · rw [getD_set_ne false (Ne.symm hk)]
                  have : (k == i) = false := by simp [hk]
                  simp [this]; omega
            exact gen _
          have e2 : 0 < (List.range ops.size).countP (fun k => k == i) := List.countP_pos_iff.2 ⟨i, by simpa using hilt, by simp⟩
          omega
        omega
      · rw [← hu]
        exact hfr'.weak fun j hj => (hL' j).2 hj
  refine main ops.size (Array.replicate ops.size false) G a _ (by simp) (fun i o ho hl => ?_) ?_ ?_
  · exfalso
    unfold Ls at hl
    rw [Array.getD_eq_getD_getElem?] at hl
    cases hh : (Array.replicate ops.size false)[i]? with
    | none => rw [hh] at hl; simp at hl
    | some b => rw [hh] at hl; simp [Array.getElem?_replicate] at hh; obtain ⟨_, rfl⟩ := hh; simp at hl
  · exact Nat.le_trans List.countP_le_length (by simp)
  · have none : ∀ k, ¬ Ls (Array.replicate ops.size false) k := fun k hl => by
      unfold Ls at hl
      rw [Array.getD_eq_getD_getElem?] at hl
      cases hh : (Array.replicate ops.size false)[k]? with
      | none => rw [hh] at hl; simp at hl
      | some b => rw [hh] at hl; simp [Array.getElem?_replicate] at hh; obtain ⟨_, rfl⟩ := hh; simp at hl
    have h0 : stateAt ops st fp (Ls (Array.replicate ops.size false)) = fs := by
      rw [← h1]
      have e1 : ∀ x, (stateAt ops st fp (Ls (Array.replicate ops.size false))).t x = (st 0).t x := fun x =>
        lastv_eq (W := fun k => (ops[k]?).bind (·.dst) = some x) (Nat.zero_le _) (tconst x) (fun k hk => by omega) (fun k _ _ h => none k h.1)
      have e2 : ∀ d, (stateAt ops st fp (Ls (Array.replicate ops.size false))).b d = (st 0).b d := fun d =>
        lastv_eq (W := fun k => fp k = .wl d) (Nat.zero_le _) (bconst d) (fun k hk => by omega) (fun k _ _ h => none k h.1)
      have e3 : (stateAt ops st fp (Ls (Array.replicate ops.size false))).S = (st 0).S :=
        lastv_eq (W := fun k => fp k = .wh) (Nat.zero_le _) Sconst (fun k hk => by omega) (fun k _ _ h => none k h.1)
      have e4 : (stateAt ops st fp (Ls (Array.replicate ops.size false))).c = (st 0).c := rfl
      generalize hg : stateAt ops st fp (Ls (Array.replicate ops.size false)) = g at *
      generalize st 0 = s at *
      cases g; cases s
      simp only at e1 e2 e3 e4
      rw [e3, e4, funext e1, funext e2]
    rw [h0]
    exact (h.drew).weak fun j hj => hj.elim
end Go.Proofs.Ytemggoaefohliaa.AE
