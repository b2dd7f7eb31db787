/- What is handed back may be told in the caller's own words. No condition. -/
import Derived.Test.YtemggoaefohliaaAeL
namespace Go.Proofs.Ytemggoaefohliaa.AE
set_option linter.unusedVariables false
set_option linter.unusedSimpArgs false
open Go Go.RowKit

/-! ### strip, low, sealed -/
mutual
theorem sealed_strip (t0 : Nat) : ∀ a : AV, (a.strip t0).sealed = a.sealed
  | .junk => rfl | .undef => rfl | .bool _ => rfl | .int _ _ => rfl | .str _ => rfl | .nilp => rfl | .nilif => rfl | .loc .. => rfl | .ptr .. => rfl
  | .agg cs => by simp only [AV.strip, AV.sealed]; exact sealedL_strip t0 cs
  | .tup cs => by simp only [AV.strip, AV.sealed]; exact sealedL_strip t0 cs
  | .ref cs => by simp only [AV.strip, AV.sealed]; exact sealedL_strip t0 cs
  | .slice es .non => by simp only [AV.strip, AV.sealed]; exact sealedL_strip t0 es
  | .slice es .clip => by simp only [AV.strip, AV.sealed]; exact sealedL_strip t0 es
  | .slice es (.own t p) => by
    simp only [AV.strip]
    split <;> (simp only [AV.sealed]; exact sealedL_strip t0 es)
  | .fn f a b => by simp only [AV.strip, AV.sealed, sealedL_strip t0 a, sealedL_strip t0 b]
  | .iface t v => by simp only [AV.strip, AV.sealed]; exact sealed_strip t0 v
theorem sealedL_strip (t0 : Nat) : ∀ l : List AV, AV.sealedL (AV.stripL t0 l) = AV.sealedL l
  | [] => rfl
  | a :: l => by simp only [AV.stripL, AV.sealedL, sealed_strip t0 a, sealedL_strip t0 l]
end
theorem stripL_map (t0 : Nat) (l : List AV) : AV.stripL t0 l = l.map (AV.strip t0) := by
  induction l with
  | nil => rfl
  | cons a l ih => simp [AV.stripL, ih]
theorem isCell_strip (t0 : Nat) (a : AV) : (a.strip t0).isCell = a.isCell := by
  cases a with
  | slice es tok => cases tok <;> simp only [AV.strip] <;> (try split) <;> rfl
  | _ => rfl
theorem cells_strip (t0 : Nat) (a : AV) : (a.strip t0).cells? = a.cells?.map (AV.stripL t0) := by
  cases a with
  | slice es tok => cases tok <;> simp only [AV.strip] <;> (try split) <;> simp [AV.cells?, AV.stripL, AV.strip, *]
  | agg cs =>
    have : (AV.stripL t0 cs).all AV.isCell = cs.all AV.isCell := by
      rw [stripL_map, List.all_map]
      congr 1
      funext x
      exact isCell_strip t0 x
    simp only [AV.strip, AV.cells?, this]
    split <;> rfl
  | _ => simp [AV.strip, AV.cells?, AV.stripL]
theorem flatQ_strip (t0 : Nat) (l : List AV) : flatQ (AV.stripL t0 l) = (flatQ l).map (AV.stripL t0) := by
  induction l with
  | nil => rfl
  | cons a l ih =>
    simp only [AV.stripL, flatQ, cells_strip, ih]
    cases a.cells? with
    | none => rfl
    | some cs =>
      cases flatQ l with
      | none => rfl
      | some fl => simp [stripL_map]
theorem sizesOk_strip (t0 n : Nat) (l : List AV) : sizesOk n (AV.stripL t0 l) = sizesOk n l := by
  induction l with
  | nil => rfl
  | cons a l ih =>
    simp only [AV.stripL, sizesOk, cells_strip, ih]
    cases a.cells? with
    | none => rfl
    | some cs => simp [stripL_map]

theorem VR.strip {G : Gh} (t0 : Nat) {a : AV} {v : Value} (r : VR G a v) : VR G (a.strip t0) v := by
  refine VR.rec (motive_1 := fun a v _ => VR G (a.strip t0) v) (motive_2 := fun l m _ => VRL G (AV.stripL t0 l) m) (motive_3 := fun l b o _ => VRI G (AV.stripL t0 l) b o)
    ?_ ?_ ?_ ?_ ?_ ?_ ?_ ?_ ?_ ?_ ?_ ?_ ?_ ?_ ?_ ?_ ?_ ?_ ?_ ?_ r
  · exact fun v => .junk v
  · exact .undef
  · exact fun b => .bool b
  · exact fun k n => .int k n
  · exact fun bs => .str bs
  · exact fun cs vs _ ih => .agg _ vs ih
  · exact fun cs vs _ ih => .tup _ vs ih
  · exact .nilp
  · exact fun cs b o _ ih => .ref _ b o ih
  · exact fun dep d ver off b hb => .loc dep d ver off b hb
  · exact fun id off b hb => .ptr id off b hb
  · exact fun f first cap fv cv _ _ ih1 ih2 => .fn f _ _ fv cv ih1 ih2
  · exact fun t a v _ ih => .iface t _ v ih
  · exact .nilif
  · intro tok ad ht
    cases tok with
    | non => exact .nils _ _ (by simp)
    | clip => exact .nils _ _ (by simp)
    | own t p => exact absurd rfl (ht t p)
  · intro es tok fl b o cap sz h1 h2 _ h4 h5 ih
    have hl : es.length = (AV.stripL t0 es).length := by simp [stripL_map]
    have hf : flatQ (AV.stripL t0 es) = some (AV.stripL t0 fl) := by rw [flatQ_strip, h2]; rfl
    have hs : sizesOk sz (AV.stripL t0 es) = true := by rw [sizesOk_strip]; exact h5
    cases tok with
    | non => simp only [AV.strip]; rw [hl]; exact .slice _ _ _ b o cap sz (by omega) hf ih trivial hs
    | clip => simp only [AV.strip]; rw [hl]; exact .slice _ _ _ b o cap sz (by omega) hf ih (by simp only [TokR] at h4 ⊢; omega) hs
    | own t p =>
      simp only [AV.strip]
      split
      · rw [hl]
        refine .slice _ _ _ b o cap sz (by omega) hf ih ?_ hs
        obtain ⟨n, sz', k1, k2, k3, k4, k5, k6⟩ := h4
        have hfl : (AV.stripL t0 fl).length = fl.length := by simp [stripL_map]
        exact ⟨n, sz', by intro e; apply k1; have := congrArg List.length e; simp [stripL_map] at this; exact this, k2, k3, k4, by rw [hfl, ← hl]; exact k5, fun e => by rw [hfl]; exact k6 e⟩
      · rw [hl]; exact .slice _ _ _ b o cap sz (by omega) hf ih trivial hs
  · exact .nil
  · exact fun a v l m _ _ ih1 ih2 => .cons _ v _ m ih1 ih2
  · exact fun b o => .nil b o
  · exact fun a v l b o hI _ _ ih1 ih2 => .cons _ v _ b o hI ih1 ih2

theorem lowL_mem {h0 t0 : Nat} {l : List AV} : AV.lowL h0 t0 l = true ↔ ∀ x ∈ l, x.low h0 t0 = true := by
  induction l with
  | nil => simp [AV.lowL]
  | cons a l ih => simp [AV.lowL, ih]
theorem lowL_flat {h0 t0 : Nat} {es fl : List AV} (h : flatQ es = some fl) : AV.lowL h0 t0 es = AV.lowL h0 t0 fl := by
  have app : ∀ a b : List AV, AV.lowL h0 t0 (a ++ b) = (AV.lowL h0 t0 a && AV.lowL h0 t0 b) := fun a b => by
    induction a with
    | nil => simp [AV.lowL]
    | cons x a ih => simp [AV.lowL, ih, Bool.and_assoc]
  induction es generalizing fl with
  | nil => simp [flatQ] at h; subst h; rfl
  | cons e es ih =>
    simp only [flatQ] at h
    split at h
    · rename_i cs l hc hl
      cases h
      rw [app, AV.lowL, ih hl]
      congr 1
      cases e <;> simp only [AV.cells?] at hc <;> first | (cases hc; simp [AV.lowL]) | (split at hc <;> simp_all [AV.low]) | cases hc
    · cases h
theorem sealedL_flat {es fl : List AV} (h : flatQ es = some fl) : AV.sealedL es = AV.sealedL fl := by
  have app : ∀ a b : List AV, AV.sealedL (a ++ b) = (AV.sealedL a && AV.sealedL b) := fun a b => by
    induction a with
    | nil => simp [AV.sealedL]
    | cons x a ih => simp [AV.sealedL, ih, Bool.and_assoc]
  induction es generalizing fl with
  | nil => simp [flatQ] at h; subst h; rfl
  | cons e es ih =>
    simp only [flatQ] at h
    split at h
    · rename_i cs l hc hl
      cases h
      rw [app, AV.sealedL, ih hl]
      congr 1
      cases e <;> simp only [AV.cells?] at hc <;> first | (cases hc; simp [AV.sealedL]) | (split at hc <;> simp_all [AV.sealed]) | cases hc
    · cases h

theorem VR.low {G : Gh} {h0 t0 : Nat} (hp : ∀ i b, G.phi i = some b → i < h0) (hf : ∀ t n, G.fr t = some n → t < t0) {a : AV} {v : Value} (r : VR G a v) : a.low h0 t0 = true := by
  refine VR.rec (motive_1 := fun a v _ => a.low h0 t0 = true) (motive_2 := fun l m _ => AV.lowL h0 t0 l = true) (motive_3 := fun l b o _ => AV.lowL h0 t0 l = true)
    ?_ ?_ ?_ ?_ ?_ ?_ ?_ ?_ ?_ ?_ ?_ ?_ ?_ ?_ ?_ ?_ ?_ ?_ ?_ ?_ r
  · exact fun v => rfl
  · exact rfl
  · exact fun b => rfl
  · exact fun k n => rfl
  · exact fun bs => rfl
  · exact fun cs vs _ ih => ih
  · exact fun cs vs _ ih => ih
  · exact rfl
  · exact fun cs b o _ ih => ih
  · exact fun dep d ver off b hb => rfl
  · exact fun id off b hb => by simp [AV.low, hp id b hb]
  · exact fun f first cap fv cv _ _ ih1 ih2 => by simp [AV.low, ih1, ih2]
  · exact fun t a v _ ih => ih
  · exact rfl
  · intro tok ad ht
    cases tok with
    | non => rfl
    | clip => rfl
    | own t p => exact absurd rfl (ht t p)
  · intro es tok fl b o cap sz h1 h2 _ h4 h5 ih
    rw [← lowL_flat h2] at ih
    cases tok with
    | non => exact ih
    | clip => exact ih
    | own t p =>
      obtain ⟨n, sz', k1, k2, k3, _⟩ := h4
      simp [AV.low, ih, hf t n k3]
  · exact rfl
  · exact fun a v l m _ _ ih1 ih2 => by simp [AV.lowL, ih1, ih2]
  · exact fun b o => rfl
  · exact fun a v l b o hI _ _ ih1 ih2 => by simp [AV.lowL, ih1, ih2]
theorem VRL.low {G : Gh} {h0 t0 : Nat} (hp : ∀ i b, G.phi i = some b → i < h0) (hf : ∀ t n, G.fr t = some n → t < t0) {l : List AV} {m : List Value} (r : VRL G l m) : AV.lowL h0 t0 l = true := by
  induction l generalizing m with
  | nil => rfl
  | cons a l ih => cases r with | cons _ v _ m ha hl => simp [AV.lowL, ha.low hp hf, ih hl]

/-- the same ghost below h0, t0 -/
structure Cut (G G' : Gh) (h0 t0 : Nat) : Prop where
  I : G'.I = G.I
  phi : ∀ i, i < h0 → G'.phi i = G.phi i
  tau : ∀ t, t < t0 → G'.tau t = G.tau t
  fr : ∀ t, t < t0 → G'.fr t = G.fr t
theorem VR.cut {G G' : Gh} {h0 t0 : Nat} (hc : Cut G G' h0 t0) {a : AV} {v : Value} (r : VR G a v) : a.sealed = true → a.low h0 t0 = true → VR G' a v := by
  refine VR.rec (motive_1 := fun a v _ => a.sealed = true → a.low h0 t0 = true → VR G' a v) (motive_2 := fun l m _ => AV.sealedL l = true → AV.lowL h0 t0 l = true → VRL G' l m)
    (motive_3 := fun l b o _ => AV.sealedL l = true → AV.lowL h0 t0 l = true → VRI G' l b o)
    ?_ ?_ ?_ ?_ ?_ ?_ ?_ ?_ ?_ ?_ ?_ ?_ ?_ ?_ ?_ ?_ ?_ ?_ ?_ ?_ r
  · exact fun v _ _ => .junk v
  · exact fun _ _ => .undef
  · exact fun b _ _ => .bool b
  · exact fun k n _ _ => .int k n
  · exact fun bs _ _ => .str bs
  · exact fun cs vs _ ih h1 h2 => .agg _ vs (ih h1 h2)
  · exact fun cs vs _ ih h1 h2 => .tup _ vs (ih h1 h2)
  · exact fun _ _ => .nilp
  · exact fun cs b o _ ih h1 h2 => .ref _ b o (ih h1 h2)
  · exact fun dep d ver off b hb h1 _ => by simp [AV.sealed] at h1
  · exact fun id off b hb _ h2 => .ptr id off b (by rw [hc.phi id (by simpa [AV.low] using h2)]; exact hb)
  · exact fun f first cap fv cv _ _ ih1 ih2 h1 h2 => by
      simp only [AV.sealed, AV.low, Bool.and_eq_true] at h1 h2
      exact .fn f _ _ fv cv (ih1 h1.1 h2.1) (ih2 h1.2 h2.2)
  · exact fun t a v _ ih h1 h2 => .iface t _ v (ih h1 h2)
  · exact fun _ _ => .nilif
  · exact fun tok ad ht _ _ => .nils tok ad ht
  · intro es tok fl b o cap sz h1 h2 _ h4 h5 ih s1 s2
    have s1' : AV.sealedL fl = true := by rw [← sealedL_flat h2]; exact s1
    have s2' : AV.lowL h0 t0 es = true := by
      cases tok with
      | non => exact s2
      | clip => exact s2
      | own t p => simp only [AV.low, Bool.and_eq_true] at s2; exact s2.2
    refine .slice es tok fl b o cap sz h1 h2 (ih s1' (by rw [← lowL_flat h2]; exact s2')) ?_ h5
    cases tok with
    | non => trivial
    | clip => exact h4
    | own t p =>
      have ht : t < t0 := by simp only [AV.low, Bool.and_eq_true, decide_eq_true_eq] at s2; exact s2.1
      obtain ⟨n, sz', k1, k2, k3, k4, k5, k6⟩ := h4
      exact ⟨n, sz', k1, k2, by rw [hc.fr t ht]; exact k3, k4, k5, fun e => by rw [hc.tau t ht]; exact k6 e⟩
  · exact fun _ _ => .nil
  · exact fun a v l m _ _ ih1 ih2 h1 h2 => by
      simp only [AV.sealedL, AV.lowL, Bool.and_eq_true] at h1 h2
      exact .cons _ v _ m (ih1 h1.1 h2.1) (ih2 h1.2 h2.2)
  · exact fun b o _ _ => .nil b o
  · exact fun a v l b o hI _ _ ih1 ih2 h1 h2 => by
      simp only [AV.sealedL, AV.lowL, Bool.and_eq_true] at h1 h2
      exact .cons _ v _ b o (by rw [hc.I]; exact hI) (ih1 h1.1 h2.1) (ih2 h1.2 h2.2)
theorem VRL.cut {G G' : Gh} {h0 t0 : Nat} (hc : Cut G G' h0 t0) {l : List AV} {m : List Value} (r : VRL G l m) (h1 : AV.sealedL l = true) (h2 : AV.lowL h0 t0 l = true) : VRL G' l m := by
  induction l generalizing m with
  | nil => cases r; exact .nil
  | cons a l ih =>
    simp only [AV.sealedL, AV.lowL, Bool.and_eq_true] at h1 h2
    cases r with | cons _ v _ m ha hl => exact .cons _ _ _ _ (ha.cut hc h1.1 h2.1) (ih hl h1.2 h2.2)

/-! ### equality of boxes -/
mutual
theorem avEq_spec : ∀ a b : AV, avEq a b = true → a = b
  | .junk, b, h => by cases b <;> simp_all [avEq]
  | .undef, b, h => by cases b <;> simp_all [avEq]
  | .nilp, b, h => by cases b <;> simp_all [avEq]
  | .nilif, b, h => by cases b <;> simp_all [avEq]
  | .bool x, b, h => by cases b <;> simp_all [avEq]
  | .int k x, b, h => by cases b <;> simp_all [avEq]
  | .str x, b, h => by cases b <;> simp_all [avEq]
  | .agg x, b, h => by
    cases b <;> simp only [avEq] at h <;> first | (rw [avEqL_spec x _ h]; done) | cases h
  | .tup x, b, h => by
    cases b <;> simp only [avEq] at h <;> first | (rw [avEqL_spec x _ h]; done) | cases h
  | .ref x, b, h => by
    cases b <;> simp only [avEq] at h <;> first | (rw [avEqL_spec x _ h]; done) | cases h
  | .slice x .non, b, h => by
    cases b with
    | slice y tok => cases tok <;> simp only [avEq] at h <;> first | (rw [avEqL_spec x _ h]; done) | cases h
    | _ => simp [avEq] at h
  | .slice x .clip, b, h => by
    cases b with
    | slice y tok => cases tok <;> simp only [avEq] at h <;> first | (rw [avEqL_spec x _ h]; done) | cases h
    | _ => simp [avEq] at h
  | .slice x (.own t p), b, h => by
    cases b with
    | slice y tok =>
      cases tok <;> simp only [avEq, Bool.and_eq_true, beq_iff_eq] at h <;> first | (obtain ⟨⟨rfl, rfl⟩, h⟩ := h; rw [avEqL_spec x _ h]; done) | cases h
    | _ => simp [avEq] at h
  | .loc .., b, h => by cases b <;> simp_all [avEq]
  | .ptr .., b, h => by cases b <;> simp_all [avEq]
  | .fn f x y, b, h => by
    cases b <;> simp only [avEq, Bool.and_eq_true, beq_iff_eq] at h <;> first | (obtain ⟨⟨rfl, h1⟩, h2⟩ := h; rw [avEqL_spec x _ h1, avEqL_spec y _ h2]; done) | cases h
  | .iface t x, b, h => by
    cases b <;> simp only [avEq, Bool.and_eq_true, beq_iff_eq] at h <;> first | (obtain ⟨rfl, h1⟩ := h; rw [avEq_spec x _ h1]; done) | cases h
theorem avEqL_spec : ∀ a b : List AV, avEqL a b = true → a = b
  | [], b, h => by cases b <;> simp_all [avEqL]
  | x :: a, b, h => by
    cases b with
    | nil => simp [avEqL] at h
    | cons y b =>
      simp only [avEqL, Bool.and_eq_true] at h
      rw [avEq_spec x y h.1, avEqL_spec a b h.2]
end
theorem boxEqL_spec : ∀ a b : List HBox, boxEqL a b = true → a = b
  | [], b, h => by cases b <;> simp_all [boxEqL]
  | x :: a, b, h => by
    cases b with
    | nil => simp [boxEqL] at h
    | cons y b =>
      simp only [boxEqL, Bool.and_eq_true, beq_iff_eq] at h
      obtain ⟨⟨h1, h2⟩, h3⟩ := h
      rw [boxEqL_spec a b h3]
      obtain ⟨ty, cs⟩ := x
      obtain ⟨ty', cs'⟩ := y
      simp only at h1 h2
      rw [h1, avEqL_spec cs cs' h2]
mutual
theorem avEq_refl : ∀ a : AV, avEq a a = true
  | .junk => rfl | .undef => rfl | .nilp => rfl | .nilif => rfl
  | .bool x => by simp [avEq]
  | .int k x => by simp [avEq]
  | .str x => by simp [avEq]
  | .agg x => by simp only [avEq]; exact avEqL_refl x
  | .tup x => by simp only [avEq]; exact avEqL_refl x
  | .ref x => by simp only [avEq]; exact avEqL_refl x
  | .slice x .non => by simp only [avEq]; exact avEqL_refl x
  | .slice x .clip => by simp only [avEq]; exact avEqL_refl x
  | .slice x (.own t p) => by simp [avEq, avEqL_refl x]
  | .loc .. => by simp [avEq]
  | .ptr .. => by simp [avEq]
  | .fn f x y => by simp [avEq, avEqL_refl x, avEqL_refl y]
  | .iface t x => by simp [avEq, avEq_refl x]
theorem avEqL_refl : ∀ a : List AV, avEqL a a = true
  | [] => rfl
  | x :: a => by simp [avEqL, avEq_refl x, avEqL_refl a]
end
theorem boxEqL_refl : ∀ a : List HBox, boxEqL a a = true
  | [] => rfl
  | x :: a => by simp [boxEqL, avEqL_refl x.cs, boxEqL_refl a]
end Go.Proofs.Ytemggoaefohliaa.AE
