/- A region that draws its order: one evaluation, in the order of the text, serves every order. Condition of the check 'drawOk': what is in no order touches nothing in common. -/
import Derived.Test.YtemggoaefohliaaAeJ
namespace Go.Proofs.Ytemggoaefohliaa.AE
set_option linter.unusedVariables false
set_option linter.unusedSimpArgs false
open Go Go.RowKit

def quietK (o : Oper) : Bool :=
  match o.op with
  | .load .. => false | .store .. => false | .alloc _ => false | .box .. => false
  | .call ⟨.value _, _, _⟩ => false | .call ⟨.builtin .append, _, _⟩ => false
  | _ => true

/-- what one operation has to do with the world, and with what it does not -/
theorem evOp_local {cx : Ctx} {call : Cal} {i : Nat} {o : Oper} {s u : FS} {v : AV} {b : Nat → Nat × List AV} {S : St} {fp : FP} (h : evOp cx call i o s = some (.val v b S fp)) (hc : u.c = s.c)
    (ht : ∀ x ∈ o.op.operands, rho u.t x = rho s.t x) (hb : ∀ d, fp = .rl d ∨ fp = .wl d → u.b d = s.b d) (hS : fp = .rh ∨ fp = .wh → u.S = s.S) :
    (∃ b' S', evOp cx call i o u = some (.val v b' S' fp) ∧ (∀ e, fp = .wl e → b' e = b e) ∧ (∀ e, fp ≠ .wl e → b' e = u.b e) ∧ (fp = .wh → S' = S) ∧ (fp ≠ .wh → S' = u.S)) ∧
    (∀ e, fp ≠ .wl e → b e = s.b e) ∧ (fp ≠ .wh → S = s.S) ∧ (quietK o = true → fp = .non) := by
  have key : ∀ (x : Option AV), goOp s.S s.b x = some (.val v b S fp) → (x = some v ∧ b = s.b ∧ S = s.S ∧ fp = .non) := fun x hx => by
    unfold goOp at hx
    split at hx
    · cases hx; exact ⟨rfl, rfl, rfl, rfl⟩
    · cases hx
  have fin : ∀ (x : Option AV), goOp s.S s.b x = some (.val v b S fp) → evOp cx call i o u = goOp u.S u.b x →
      (∃ b' S', evOp cx call i o u = some (.val v b' S' fp) ∧ (∀ e, fp = .wl e → b' e = b e) ∧ (∀ e, fp ≠ .wl e → b' e = u.b e) ∧ (fp = .wh → S' = S) ∧ (fp ≠ .wh → S' = u.S)) ∧
      (∀ e, fp ≠ .wl e → b e = s.b e) ∧ (fp ≠ .wh → S = s.S) ∧ (quietK o = true → fp = .non) := fun x hx hu => by
    obtain ⟨rfl, rfl, rfl, rfl⟩ := key x hx
    exact ⟨⟨u.b, u.S, hu, (fun e h => by cases h), fun _ _ => rfl, (fun h => by cases h), fun _ => rfl⟩, fun _ _ => rfl, fun _ => rfl, fun _ => rfl⟩
  unfold evOp at h
  split at h
  · rename_i x hop; exact fin (some _) h (by simp [evOp, hop, goOp, ht x (by simp [hop, Op.operands])])
  · rename_i x hop; exact fin (some _) h (by simp [evOp, hop, goOp, ht x (by simp [hop, Op.operands])])
  · rename_i c x y hop
    split at h
    · rename_i q hq
      refine fin (some _) h ?_
      simp [evOp, hop, goOp, ht c (by simp [hop, Op.operands]), ht x (by simp [hop, Op.operands]), ht y (by simp [hop, Op.operands]), hq]
    · cases h
  · rename_i ty hop
    split at h
    · rename_i z hz
      unfold evBox at h
      split at h
      · cases h
      · rename_i d hd
        split at h
        · rename_i hesc
          split at h
          · rename_i hse
            cases h
            have hS' := hS (.inr rfl)
            refine ⟨⟨u.b, _, by simp [evOp, hop, hz, evBox, hd, hesc, hse, hS'], (fun e h => by cases h), fun _ _ => rfl, fun _ => rfl, fun h => absurd rfl h⟩, fun _ _ => rfl, fun h => absurd rfl h, fun h => by simp [quietK, hop] at h⟩
          · cases h
        · rename_i hesc
          cases h
          refine ⟨⟨upd d (s.c + i + 1, z) u.b, u.S, by simp [evOp, hop, hz, evBox, hd, hesc, hc], fun e h => ?_, fun e h => ?_, (fun h => by cases h), fun _ => rfl⟩, fun e h => ?_, fun _ => rfl, fun h => by simp [quietK, hop] at h⟩
          · cases h; simp [upd]
          · have : e ≠ d := fun h' => h (by rw [h'])
            simp [upd, this]
          · have : e ≠ d := fun h' => h (by rw [h'])
            simp [upd, this]
    · cases h
  · rename_i ty x hop
    have hx := ht x (by simp [hop, Op.operands])
    split at h
    · rename_i z hz
      unfold evBox at h
      split at h
      · cases h
      · rename_i d hd
        split at h
        · rename_i hesc
          split at h
          · rename_i hse
            cases h
            have hS' := hS (.inr rfl)
            refine ⟨⟨u.b, _, by simp [evOp, hop, hx, hz, evBox, hd, hesc, hse, hS'], (fun e h => by cases h), fun _ _ => rfl, fun _ => rfl, fun h => absurd rfl h⟩, fun _ _ => rfl, fun h => absurd rfl h, fun h => by simp [quietK, hop] at h⟩
          · cases h
        · rename_i hesc
          cases h
          refine ⟨⟨upd d (s.c + i + 1, z) u.b, u.S, by simp [evOp, hop, hx, hz, evBox, hd, hesc, hc], fun e h => ?_, fun e h => ?_, (fun h => by cases h), fun _ => rfl⟩, fun e h => ?_, fun _ => rfl, fun h => by simp [quietK, hop] at h⟩
          · cases h; simp [upd]
          · have : e ≠ d := fun h' => h (by rw [h'])
            simp [upd, this]
          · have : e ≠ d := fun h' => h (by rw [h'])
            simp [upd, this]
    · cases h
  · rename_i t parts hop
    refine fin _ h ?_
    have : (parts.toList.map fun p => (p.1, rho u.t p.2)) = parts.toList.map fun p => (p.1, rho s.t p.2) :=
      List.map_congr_left fun p hp => by rw [ht p.2 (by simp only [hop, Op.operands]; simp; exact ⟨p.1, by simpa using hp⟩)]
    simp [evOp, hop, this]
  · rename_i t n parts hop
    refine fin _ h ?_
    have : (parts.toList.map fun p => (p.1, rho u.t p.2)) = parts.toList.map fun p => (p.1, rho s.t p.2) :=
      List.map_congr_left fun p hp => by rw [ht p.2 (by simp only [hop, Op.operands]; simp; exact ⟨p.1, by simpa using hp⟩)]
    simp [evOp, hop, this]
  · rename_i t x hop
    have hx := ht x (by simp [hop, Op.operands])
    have hkn : knownQ cx.P t ≠ false := by
      intro h0; simp [evLoad, h0] at h
    unfold evLoad at h
    split at h
    · cases h
    · split at h
      · rename_i cs hcs
        split at h
        · rename_i r hr
          cases h
          exact ⟨⟨u.b, u.S, by simp [evOp, hop, hx, hcs, evLoad, hkn, hr], (fun e h => by cases h), fun _ _ => rfl, (fun h => by cases h), fun _ => rfl⟩, fun _ _ => rfl, fun _ => rfl, fun _ => rfl⟩
        · cases h
      · rename_i dep d ver off hcs
        split at h
        · rename_i hcond
          split at h
          · rename_i r hr
            cases h
            have hb' := hb d (.inl rfl)
            exact ⟨⟨u.b, u.S, by simp [evOp, hop, hx, hcs, evLoad, hkn, hb', hcond, hr], (fun e h => by cases h), fun _ _ => rfl, (fun h => by cases h), fun _ => rfl⟩, fun _ _ => rfl, fun _ => rfl, fun h => by simp [quietK, hop] at h⟩
          · cases h
        · cases h
      · rename_i id off hcs
        split at h
        · rename_i bx hbx
          split at h
          · rename_i r hr
            cases h
            have hS' := hS (.inl rfl)
            exact ⟨⟨u.b, u.S, by simp [evOp, hop, hx, hcs, evLoad, hkn, hS', hbx, hr], (fun e h => by cases h), fun _ _ => rfl, (fun h => by cases h), fun _ => rfl⟩, fun _ _ => rfl, fun _ => rfl, fun h => by simp [quietK, hop] at h⟩
          · cases h
        · cases h
      · cases h
  · rename_i t x y hop
    have hx := ht x (by simp [hop, Op.operands])
    have hy := ht y (by simp [hop, Op.operands])
    unfold evStore at h
    split at h
    · cases h
    · rename_i new hnew
      split at h
      · rename_i hcond
        split at h
        · rename_i dep d ver off hcs
          split at h
          · rename_i hd
            split at h
            · rename_i cs hw
              cases h
              have hb' := hb d (.inr rfl)
              refine ⟨⟨upd d (ver, cs) u.b, u.S, by simp [evOp, hop, hx, hy, hcs, evStore, hnew, hcond, hb', hd, hw], fun e h => ?_, fun e h => ?_, (fun h => by cases h), fun _ => rfl⟩, fun e h => ?_, fun _ => rfl, fun h => by simp [quietK, hop] at h⟩
              · cases h; simp [upd]
              · have : e ≠ d := fun h' => h (by rw [h'])
                simp [upd, this]
              · have : e ≠ d := fun h' => h (by rw [h'])
                simp [upd, this]
            · cases h
          · cases h
        · rename_i id off hcs
          split at h
          · rename_i bx hbx
            split at h
            · rename_i cs hw
              split at h
              · rename_i hse
                cases h
                have hS' := hS (.inr rfl)
                refine ⟨⟨u.b, _, by simp [evOp, hop, hx, hy, hcs, evStore, hnew, hcond, hS', hbx, hw, hse], (fun e h => by cases h), fun _ _ => rfl, fun _ => rfl, fun h => absurd rfl h⟩, fun _ _ => rfl, fun h => absurd rfl h, fun h => by simp [quietK, hop] at h⟩
              · cases h
            · cases h
          · cases h
        · cases h
      · cases h
  · rename_i x hop
    have hx := ht x (by simp [hop, Op.operands])
    split at h
    · rename_i e; exact fin (some _) h (by simp [evOp, hop, goOp, hx, e])
    · rename_i e; exact fin (some _) h (by simp [evOp, hop, goOp, hx, e])
    · rename_i e; exact fin (some _) h (by simp [evOp, hop, goOp, hx, e])
    · cases h
  · rename_i op xt x y yt hop
    exact fin _ h (by simp [evOp, hop, ht x (by simp [hop, Op.operands]), ht y (by simp [hop, Op.operands])])
  · rename_i op xt x hop
    exact fin _ h (by simp [evOp, hop, ht x (by simp [hop, Op.operands])])
  · rename_i p q x hop
    exact fin _ h (by simp [evOp, hop, ht x (by simp [hop, Op.operands])])
  · rename_i t x hop
    split at h
    · rename_i hcq; exact fin (some _) h (by simp [evOp, hop, goOp, hcq, ht x (by simp [hop, Op.operands])])
    · cases h
  · rename_i f first cap hop
    have e1 : rhoL u.t first = rhoL s.t first := List.map_congr_left fun x hx => ht x (by simp only [hop, Op.operands]; simp at hx ⊢; exact .inl hx)
    have e2 : rhoL u.t cap = rhoL s.t cap := List.map_congr_left fun x hx => ht x (by simp only [hop, Op.operands]; simp at hx ⊢; exact .inr hx)
    exact fin (some _) h (by simp [evOp, hop, goOp, e1, e2])
  · rename_i t x lo hi hop
    have ov : ∀ z : Option Operand, (∀ y, z = some y → y ∈ o.op.operands) → z.map (rho u.t) = z.map (rho s.t) := fun z hz => by
      cases z with
      | none => rfl
      | some y => simp [ht y (hz y rfl)]
    have e1 := ov lo fun y hy => by subst hy; simp [hop, Op.operands]
    have e2 := ov hi fun y hy => by subst hy; simp [hop, Op.operands]
    exact fin _ h (by simp [evOp, hop, ht x (by simp [hop, Op.operands]), e1, e2])
  · rename_i p x f hop
    exact fin _ h (by simp [evOp, hop, ht x (by simp [hop, Op.operands])])
  · rename_i p x f hop
    exact fin _ h (by simp [evOp, hop, ht x (by simp [hop, Op.operands])])
  · rename_i p x y hop
    exact fin _ h (by simp [evOp, hop, ht x (by simp [hop, Op.operands]), ht y (by simp [hop, Op.operands])])
  · rename_i p x y hop
    exact fin _ h (by simp [evOp, hop, ht x (by simp [hop, Op.operands]), ht y (by simp [hop, Op.operands])])
  · rename_i x k hop
    split at h
    · rename_i e; exact fin _ h (by simp [evOp, hop, ht x (by simp [hop, Op.operands]), e])
    · cases h
  · rename_i f args ts hop
    have e1 : rhoL u.t args = rhoL s.t args := List.map_congr_left fun x hx => ht x (by simp only [hop, Op.operands, Call.operands]; simp at hx ⊢; exact .inr hx)
    have e2 := ht f (by simp [hop, Op.operands, Call.operands])
    unfold evCallee at h
    split at h
    · rename_i g first cap hf
      split at h
      · rename_i r S' hcall
        cases h
        have hS' := hS (.inr rfl)
        refine ⟨⟨u.b, _, by simp [evOp, hop, e1, e2, hf, evCallee, hS', hcall], (fun e h => by cases h), fun _ _ => rfl, fun _ => rfl, fun h => absurd rfl h⟩, fun _ _ => rfl, fun h => absurd rfl h, fun h => by simp [quietK, hop] at h⟩
      · cases h
      · cases h
    · cases h
  · rename_i bi args ts hop
    have e1 : rhoL u.t args = rhoL s.t args := List.map_congr_left fun x hx => ht x (by simp only [hop, Op.operands, Call.operands]; simp at hx ⊢; exact hx)
    unfold evBuiltin at h
    split at h
    · split at h
      · rename_i e3 e4
        exact fin _ h (by simp [evOp, hop, e1, evBuiltin, e3, e4])
      · cases h
    · split at h
      · rename_i e4
        exact fin _ h (by simp [evOp, hop, e1, evBuiltin, e4])
      · cases h
    · split at h
      · rename_i e4
        exact fin _ h (by simp [evOp, hop, e1, evBuiltin, e4])
      · cases h
    · split at h
      · rename_i p q e4
        split at h
        · rename_i r S' hap
          cases h
          have hS' := hS (.inr rfl)
          refine ⟨⟨u.b, _, by simp [evOp, hop, e1, evBuiltin, e4, hS', hap], (fun e h => by cases h), fun _ _ => rfl, fun _ => rfl, fun h => absurd rfl h⟩, fun _ _ => rfl, fun h => absurd rfl h, fun h => by simp [quietK, hop] at h⟩
        · cases h
      · cases h
    · cases h
  · rename_i x hop
    split at h
    · cases h
    · cases h
  · cases h
end Go.Proofs.Ytemggoaefohliaa.AE
