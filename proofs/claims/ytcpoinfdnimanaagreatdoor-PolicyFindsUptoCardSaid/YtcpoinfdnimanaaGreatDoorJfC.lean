/- Joined: AeK, AeL, AeM, AeW, AeN. No condition beyond those of its lemmas. -/
import Derived.Test.YtcpoinfdnimanaaGreatDoorJfB
import Derived.Deep.LoopGhost
/- A region that draws its order: one evaluation, in the order of the text, serves every order. Condition of the check 'drawOk': what is in no order touches nothing in common. -/
namespace Go.Proofs.YtcpoinfdnimanaaGreatDoor.AE
set_option linter.unusedVariables false
set_option linter.unusedSimpArgs false
open Go Go.RowKit

def quietK (o : Oper) : Bool :=
  match o.op with
  | .load .. => false | .store .. => false | .alloc _ => false | .box .. => false
  | .call ⟨.value _, _, _⟩ => false | .call ⟨.builtin .append, _, _⟩ => false | .call ⟨.builtin .copy, _, _⟩ => false | .call ⟨.builtin .clear, _, _⟩ => false
  | .lookup .. => false | .mapUpdate .. => false | .makeMap .. => false
  | _ => true

/-- what is outside behind an operation of that footprint, by what it is behind it elsewhere (S), and by what it was (U) -/
@[simp] def WT : FP → Prop
  | .wh => True | .nw _ => True | _ => False
@[simp] def WH : FP → Nat → Prop
  | .wh, _ => True | .wo d, e => d = e | .nw n, e => n ≤ e | _, _ => False
@[simp] def RA : FP → Prop
  | .rh => True | .wh => True | .nw _ => True | _ => False
def SP (fp : FP) (S' S U : St) : Prop :=
  (WT fp → S' = S) ∧ (∀ e, WH fp e → S'.H[e]? = S.H[e]?) ∧ (∀ e, ¬ WH fp e → S'.H[e]? = U.H[e]?) ∧ (¬ WT fp → S'.T = U.T)
theorem SP.same {fp : FP} (S U : St) (h1 : ¬ WT fp) (h2 : ∀ e, ¬ WH fp e) : SP fp U S U := ⟨fun h => absurd h h1, fun e h => absurd h (h2 e), fun _ _ => rfl, fun _ => rfl⟩
theorem SP.all (S U : St) : SP .wh S S U := ⟨fun _ => rfl, fun _ _ => rfl, fun e h => absurd trivial h, fun h => absurd trivial h⟩
theorem SP.new {S U : St} (h : S.H.take U.H.length = U.H) : SP (.nw U.H.length) S S U := ⟨fun _ => rfl, fun _ _ => rfl, fun e he => by
  have he' : e < U.H.length := by simpa using he
  rw [← List.getElem?_take_of_lt (l := S.H) he', h], fun h => absurd trivial h⟩
theorem SP.one {U V : St} {id : Nat} {bx : HBox} (h : V.H[id]? = U.H[id]?) : SP (.wo id) { U with H := U.H.set id bx } { V with H := V.H.set id bx } U := by
  refine ⟨(fun h => by cases h), fun e he => ?_, fun j hj => ?_, fun _ => rfl⟩
  · have he' : id = e := he
    subst he'
    simp only [List.getElem?_set_self']
    rw [h]
  · have hj' : id ≠ j := hj
    simp [List.getElem?_set_ne hj']

theorem evAppendM_fp {P : Program} {ts : List TypeId} {s x r : AV} {S S' : St} {fp : FP} (h : evAppendM P ts s x S = some (r, S', fp)) : fp = .wh ∨ (fp = .rh ∧ S' = S) := by
  unfold evAppendM at h
  repeat' split at h
  all_goals first | (cases h; done) | (cases h; exact .inl rfl) | (cases h; exact .inr ⟨rfl, rfl⟩)
theorem builtinM_fp {cx : Ctx} {bi : Builtin} {mk : Bool} {ts : List TypeId} {args : List AV} {s : FS} {v : AV} {b : Nat → Nat × List AV} {S : St} {fp : FP} (h : evBuiltinM cx bi mk ts args s = some (.val v b S fp)) :
    (fp = .wh ∨ (fp = .rh ∧ S = s.S)) ∧ b = s.b ∧ (bi = .append ∨ bi = .copy ∨ bi = .clear) ∧ ∀ u : FS, u.S = s.S → evBuiltinM cx bi mk ts args u = some (.val v u.b S fp) := by
  unfold evBuiltinM at h
  split at h
  · split at h
    · rename_i hq
      split at h
      · rename_i v' S' fp' hv
        cases h
        refine ⟨evAppendM_fp hv, rfl, .inl rfl, fun u hu => ?_⟩
        simp only [evBuiltinM, hq, if_true, hu, hv]
      · cases h
    · rename_i hq
      split at h
      · rename_i e he
        split at h
        · cases h
        · rename_i hag
          split at h
          · rename_i c n hc hn
            split at h
            · rename_i v' S' hv
              cases h
              refine ⟨.inl rfl, rfl, .inl rfl, fun u hu => ?_⟩
              simp [evBuiltinM, hq, he, hag, hu, hc, hn, hv]
            · cases h
          · cases h
      · cases h
  · split at h
    · rename_i v' S' hv
      cases h
      exact ⟨.inl rfl, rfl, .inr (.inl rfl), fun u hu => by simp only [evBuiltinM, hu, hv]⟩
    · cases h
  · split at h
    · rename_i v' S' hv
      cases h
      exact ⟨.inl rfl, rfl, .inr (.inr rfl), fun u hu => by simp only [evBuiltinM, hu, hv]⟩
    · cases h
  · cases h
theorem goOp_none {S S' : St} {b b' : Nat → Nat × List AV} {x : Option AV} (h : goOp S b x = none) : goOp S' b' x = none := by
  cases x with
  | none => rfl
  | some v => simp [goOp] at h
theorem evBuiltin_none {cx : Ctx} {bi : Builtin} {ts : List TypeId} {args : List AV} {s u : FS} (hu : u.S = s.S) (h : evBuiltin cx bi ts args s = none) : evBuiltin cx bi ts args u = none := by
  unfold evBuiltin at h ⊢
  split at h
  · split at h
    · exact goOp_none h
    · rename_i hn; simp_all
  · split at h
    · exact goOp_none h
    · rename_i hn; simp_all
  · split at h
    · exact goOp_none h
    · rename_i hn; simp_all
  · split at h
    · split at h
      · cases h
      · rename_i hn; simp only [hu, hn]
    · rename_i hn; simp_all
  · simp_all
theorem evLookup_fp {P : Program} {t : TypeId} {x k r : AV} {c : Bool} {S : St} {fp : FP} (h : evLookup P t x k c S = some (r, fp)) :
    (fp = .non ∨ ∃ id, fp = .ro id) ∧ ∀ S2 : St, (∀ id, fp = .ro id → S2.H[id]? = S.H[id]?) → evLookup P t x k c S2 = some (r, fp) := by
  unfold evLookup at h
  split at h
  · cases h
  · rename_i kk e hq
    split at h
    · rename_i hki
      split at h
      · rename_i es fp' hes
        have hfp : fp' = fp := by
          split at h
          · cases h
          · split at h
            · cases h; rfl
            · split at h
              · cases h; rfl
              · cases h
        subst hfp
        have hent : (fp' = .non ∨ ∃ id, fp' = .ro id) ∧ ∀ S2 : St, (∀ id, fp' = .ro id → S2.H[id]? = S.H[id]?) → entriesOf x S2 = some (es, fp') := by
          unfold entriesOf at hes
          split at hes
          · cases hes; exact ⟨.inl rfl, fun S2 _ => rfl⟩
          · rename_i id
            split at hes
            · rename_i bx hb
              split at hes
              · rename_i hm
                cases hes
                refine ⟨.inr ⟨id, rfl⟩, fun S2 h2 => ?_⟩
                simp only [entriesOf, h2 id rfl, hb, hm, if_true]
              · cases hes
            · cases hes
          · cases hes
        refine ⟨hent.1, fun S2 h2 => ?_⟩
        unfold evLookup
        simp only [hq, hki, if_true, hent.2 S2 h2]
        exact h
      · cases h
    · cases h
theorem evMapUpdate_fp {P : Program} {t : TypeId} {x k v : AV} {S S' : St} {fp : FP} (h : evMapUpdate P t x k v S = some (S', fp)) :
    ∃ id bx, fp = .wo id ∧ S' = { S with H := S.H.set id bx } ∧ ∀ S2 : St, S2.H[id]? = S.H[id]? → evMapUpdate P t x k v S2 = some ({ S2 with H := S2.H.set id bx }, fp) := by
  unfold evMapUpdate at h
  split at h
  · rename_i kk e id cs hq hcs
    split at h
    · rename_i hc
      split at h
      · rename_i bx hb
        split at h
        · rename_i hm
          simp only [Option.some.injEq, Prod.mk.injEq] at h
          obtain ⟨rfl, rfl⟩ := h
          refine ⟨id, _, rfl, rfl, fun S2 h2 => ?_⟩
          simp only [evMapUpdate, hq, hcs, hc, if_true, h2, hb, hm]
        · cases h
      · cases h
    · cases h
  · cases h

/-- what one operation has to do with the world, and with what it does not -/
theorem evOp_local {cx : Ctx} {call : Cal} {i : Nat} {o : Oper} {s u : FS} {v : AV} {b : Nat → Nat × List AV} {S : St} {fp : FP} (h : evOp cx call i o s = some (.val v b S fp)) (hc : u.c = s.c)
    (ht : ∀ x ∈ o.op.operands, rho u.t x = rho s.t x) (hb : ∀ d, fp = .rl d ∨ fp = .wl d → u.b d = s.b d) (hS : RA fp → u.S = s.S) (hO : ∀ e, fp = .ro e ∨ fp = .wo e → u.S.H[e]? = s.S.H[e]?) :
    (∃ b' S', evOp cx call i o u = some (.val v b' S' fp) ∧ (∀ e, fp = .wl e → b' e = b e) ∧ (∀ e, fp ≠ .wl e → b' e = u.b e) ∧ SP fp S' S u.S) ∧
    (∀ e, fp ≠ .wl e → b e = s.b e) ∧ SP fp S S s.S ∧ (quietK o = true → fp = .non) := by
  have key : ∀ (x : Option AV), goOp s.S s.b x = some (.val v b S fp) → (x = some v ∧ b = s.b ∧ S = s.S ∧ fp = .non) := fun x hx => by
    unfold goOp at hx
    split at hx
    · cases hx; exact ⟨rfl, rfl, rfl, rfl⟩
    · cases hx
  have fin : ∀ (x : Option AV), goOp s.S s.b x = some (.val v b S fp) → evOp cx call i o u = goOp u.S u.b x →
      (∃ b' S', evOp cx call i o u = some (.val v b' S' fp) ∧ (∀ e, fp = .wl e → b' e = b e) ∧ (∀ e, fp ≠ .wl e → b' e = u.b e) ∧ SP fp S' S u.S) ∧
      (∀ e, fp ≠ .wl e → b e = s.b e) ∧ SP fp S S s.S ∧ (quietK o = true → fp = .non) := fun x hx hu => by
    obtain ⟨rfl, rfl, rfl, rfl⟩ := key x hx
    exact ⟨⟨u.b, u.S, hu, (fun e h => by cases h), fun _ _ => rfl, .same _ _ (by simp) (by simp)⟩, fun _ _ => rfl, .same _ _ (by simp) (by simp), fun _ => rfl⟩
  unfold evOp at h
  split at h
  · rename_i x hop; exact fin (some _) h (by simp [evOp, hop, goOp, ht x (by simp [hop, Op.operands])])
  · rename_i x hop; exact fin (some _) h (by simp [evOp, hop, goOp, ht x (by simp [hop, Op.operands])])
  · rename_i c x y hop
    split at h
    · rename_i q hq
      refine fin (some _) h ?_
      simp [evOp, hop, goOp, ht c (by simp [hop, Op.operands]), ht x (by simp [hop, Op.operands]), ht y (by simp [hop, Op.operands]), hq]
    · cases h
  · rename_i ty hop
    split at h
    · rename_i z hz
      unfold evBox at h
      split at h
      · cases h
      · rename_i d hd
        split at h
        · rename_i hesc
          split at h
          · rename_i hse
            cases h
            have hS' := hS trivial
            refine ⟨⟨u.b, _, by simp [evOp, hop, hz, evBox, hd, hesc, hse, hS'], (fun e h => by cases h), fun _ _ => rfl, .all _ _⟩, fun _ _ => rfl, .all _ _, fun h => by simp [quietK, hop] at h⟩
          · cases h
        · rename_i hesc
          cases h
          refine ⟨⟨upd d (s.c + i + 1, z) u.b, u.S, by simp [evOp, hop, hz, evBox, hd, hesc, hc], fun e h => ?_, fun e h => ?_, .same _ _ (by simp) (by simp)⟩, fun e h => ?_, .same _ _ (by simp) (by simp), fun h => by simp [quietK, hop] at h⟩
          · cases h; simp [upd]
          · have : e ≠ d := fun h' => h (by rw [h'])
            simp [upd, this]
          · have : e ≠ d := fun h' => h (by rw [h'])
            simp [upd, this]
    · cases h
  · rename_i ty x hop
    have hx := ht x (by simp [hop, Op.operands])
    split at h
    · rename_i z hz
      unfold evBox at h
      split at h
      · cases h
      · rename_i d hd
        split at h
        · rename_i hesc
          split at h
          · rename_i hse
            cases h
            have hS' := hS trivial
            refine ⟨⟨u.b, _, by simp [evOp, hop, hx, hz, evBox, hd, hesc, hse, hS'], (fun e h => by cases h), fun _ _ => rfl, .all _ _⟩, fun _ _ => rfl, .all _ _, fun h => by simp [quietK, hop] at h⟩
          · cases h
        · rename_i hesc
          cases h
          refine ⟨⟨upd d (s.c + i + 1, z) u.b, u.S, by simp [evOp, hop, hx, hz, evBox, hd, hesc, hc], fun e h => ?_, fun e h => ?_, .same _ _ (by simp) (by simp)⟩, fun e h => ?_, .same _ _ (by simp) (by simp), fun h => by simp [quietK, hop] at h⟩
          · cases h; simp [upd]
          · have : e ≠ d := fun h' => h (by rw [h'])
            simp [upd, this]
          · have : e ≠ d := fun h' => h (by rw [h'])
            simp [upd, this]
    · cases h
  · rename_i t parts hop
    refine fin _ h ?_
    have : (parts.toList.map fun p => (p.1, rho u.t p.2)) = parts.toList.map fun p => (p.1, rho s.t p.2) :=
      List.map_congr_left fun p hp => by rw [ht p.2 (by simp only [hop, Op.operands]; simp; exact ⟨p.1, by simpa using hp⟩)]
    simp [evOp, hop, this]
  · rename_i t n parts hop
    refine fin _ h ?_
    have : (parts.toList.map fun p => (p.1, rho u.t p.2)) = parts.toList.map fun p => (p.1, rho s.t p.2) :=
      List.map_congr_left fun p hp => by rw [ht p.2 (by simp only [hop, Op.operands]; simp; exact ⟨p.1, by simpa using hp⟩)]
    simp [evOp, hop, this]
  · rename_i t x hop
    have hx := ht x (by simp [hop, Op.operands])
    have hkn : knownQ cx.P t ≠ false := by
      intro h0; simp [evLoad, h0] at h
    unfold evLoad at h
    split at h
    · cases h
    · split at h
      · rename_i cs hcs
        split at h
        · rename_i r hr
          cases h
          exact ⟨⟨u.b, u.S, by simp [evOp, hop, hx, hcs, evLoad, hkn, hr], (fun e h => by cases h), fun _ _ => rfl, .same _ _ (by simp) (by simp)⟩, fun _ _ => rfl, .same _ _ (by simp) (by simp), fun _ => rfl⟩
        · cases h
      · rename_i dep d ver off hcs
        split at h
        · rename_i hcond
          split at h
          · rename_i r hr
            cases h
            have hb' := hb d (.inl rfl)
            exact ⟨⟨u.b, u.S, by simp [evOp, hop, hx, hcs, evLoad, hkn, hb', hcond, hr], (fun e h => by cases h), fun _ _ => rfl, .same _ _ (by simp) (by simp)⟩, fun _ _ => rfl, .same _ _ (by simp) (by simp), fun h => by simp [quietK, hop] at h⟩
          · cases h
        · cases h
      · rename_i id off hcs
        split at h
        · rename_i bx hbx
          split at h
          · rename_i hty
            split at h
            · rename_i r hr
              cases h
              have hS' := hO id (.inl rfl)
              exact ⟨⟨u.b, u.S, by simp [evOp, hop, hx, hcs, evLoad, hkn, hS', hbx, hty, hr], (fun e h => by cases h), fun _ _ => rfl, .same _ _ (by simp) (by simp)⟩, fun _ _ => rfl, .same _ _ (by simp) (by simp), fun h => by simp [quietK, hop] at h⟩
            · cases h
          · cases h
        · cases h
      · rename_i id ver off hcs
        split at h
        · rename_i row hrow
          split at h
          · rename_i r hr
            cases h
            have hS' := hO id (.inl rfl)
            have hrow' : (u.S.H[id]?).bind (rowC · ver) = some row := by rw [hS']; exact hrow
            exact ⟨⟨u.b, u.S, by simp only [evOp, hop, hx, hcs, evLoad]; rw [if_neg hkn]; simp only [hrow', hr], (fun e h => by cases h), fun _ _ => rfl, .same _ _ (by simp) (by simp)⟩, fun _ _ => rfl, .same _ _ (by simp) (by simp), fun h => by simp [quietK, hop] at h⟩
          · cases h
        · cases h
      · cases h
  · rename_i t x y hop
    have hx := ht x (by simp [hop, Op.operands])
    have hy := ht y (by simp [hop, Op.operands])
    unfold evStore at h
    split at h
    · cases h
    · rename_i new hnew
      split at h
      · rename_i hcond
        split at h
        · rename_i dep d ver off hcs
          split at h
          · rename_i hd
            split at h
            · rename_i cs hw
              cases h
              have hb' := hb d (.inr rfl)
              refine ⟨⟨upd d (ver, cs) u.b, u.S, by simp [evOp, hop, hx, hy, hcs, evStore, hnew, hcond, hb', hd, hw], fun e h => ?_, fun e h => ?_, .same _ _ (by simp) (by simp)⟩, fun e h => ?_, .same _ _ (by simp) (by simp), fun h => by simp [quietK, hop] at h⟩
              · cases h; simp [upd]
              · have : e ≠ d := fun h' => h (by rw [h'])
                simp [upd, this]
              · have : e ≠ d := fun h' => h (by rw [h'])
                simp [upd, this]
            · cases h
          · cases h
        · rename_i id off hcs
          split at h
          · rename_i bx hbx
            split at h
            · rename_i hty
              split at h
              · rename_i cs hw
                split at h
                · rename_i hse
                  cases h
                  have hS' := hO id (.inr rfl)
                  refine ⟨⟨u.b, _, by simp [evOp, hop, hx, hy, hcs, evStore, hnew, hcond, hS', hbx, hty, hw, hse], (fun e h => by cases h), fun _ _ => rfl, .one hS'.symm⟩, fun _ _ => rfl, .one (V := s.S) rfl, fun h => by simp [quietK, hop] at h⟩
                · cases h
              · cases h
            · cases h
          · cases h
        · rename_i id ver off hcs
          split at h
          · rename_i bx hbx
            split at h
            · rename_i old hold
              split at h
              · rename_i cs hw
                split at h
                · rename_i hse
                  cases h
                  have hS' := hO id (.inr rfl)
                  refine ⟨⟨u.b, _, by simp [evOp, hop, hx, hy, hcs, evStore, hnew, hcond, hS', hbx, hold, hw, hse], (fun e h => by cases h), fun _ _ => rfl, .one hS'.symm⟩, fun _ _ => rfl, .one (V := s.S) rfl, fun h => by simp [quietK, hop] at h⟩
                · cases h
              · cases h
            · cases h
          · cases h
        · cases h
      · cases h
  · rename_i x hop
    have hx := ht x (by simp [hop, Op.operands])
    split at h
    · rename_i e; exact fin (some _) h (by simp [evOp, hop, goOp, hx, e])
    · rename_i e; exact fin (some _) h (by simp [evOp, hop, goOp, hx, e])
    · rename_i e; exact fin (some _) h (by simp [evOp, hop, goOp, hx, e])
    · rename_i e; exact fin (some _) h (by simp [evOp, hop, goOp, hx, e])
    · cases h
  · rename_i op xt x y yt hop
    exact fin _ h (by simp [evOp, hop, ht x (by simp [hop, Op.operands]), ht y (by simp [hop, Op.operands])])
  · rename_i op xt x hop
    exact fin _ h (by simp [evOp, hop, ht x (by simp [hop, Op.operands])])
  · rename_i p q x hop
    exact fin _ h (by simp [evOp, hop, ht x (by simp [hop, Op.operands])])
  · rename_i t x hop
    split at h
    · rename_i hcq; exact fin (some _) h (by simp [evOp, hop, goOp, hcq, ht x (by simp [hop, Op.operands])])
    · cases h
  · rename_i f first cap hop
    have e1 : rhoL u.t first = rhoL s.t first := List.map_congr_left fun x hx => ht x (by simp only [hop, Op.operands]; simp at hx ⊢; exact .inl hx)
    have e2 : rhoL u.t cap = rhoL s.t cap := List.map_congr_left fun x hx => ht x (by simp only [hop, Op.operands]; simp at hx ⊢; exact .inr hx)
    exact fin (some _) h (by simp [evOp, hop, goOp, e1, e2])
  · rename_i t x lo hi mx hop
    have ov : ∀ z : Option Operand, (∀ y, z = some y → y ∈ o.op.operands) → z.map (rho u.t) = z.map (rho s.t) := fun z hz => by
      cases z with
      | none => rfl
      | some y => simp [ht y (hz y rfl)]
    have e1 := ov lo fun y hy => by subst hy; simp [hop, Op.operands]
    have e2 := ov hi fun y hy => by subst hy; simp [hop, Op.operands]
    exact fin _ h (by simp [evOp, hop, ht x (by simp [hop, Op.operands]), ht mx (by simp [hop, Op.operands]), e1, e2])
  · rename_i t hop
    split at h
    · rename_i hm
      cases h
      have hS' := hS trivial
      exact ⟨⟨u.b, _, by simp [evOp, hop, hm, hS'], (fun e h => by cases h), fun _ _ => rfl, .all _ _⟩, fun _ _ => rfl, .all _ _, fun h => by simp [quietK, hop] at h⟩
    · cases h
  · rename_i t x k ok hop
    split at h
    · rename_i r fp' hv
      cases h
      obtain ⟨h1, h2⟩ := evLookup_fp hv
      have hv' := h2 u.S fun id e => hO id (.inl e)
      have n1 : ¬ WT fp := by rcases h1 with rfl | ⟨_, rfl⟩ <;> simp
      have n2 : ∀ e, ¬ WH fp e := fun e => by rcases h1 with rfl | ⟨_, rfl⟩ <;> simp
      have n3 : ∀ e, fp ≠ .wl e := fun e => by rcases h1 with rfl | ⟨_, rfl⟩ <;> simp
      exact ⟨⟨u.b, u.S, by simp [evOp, hop, ht x (by simp [hop, Op.operands]), ht k (by simp [hop, Op.operands]), hv'], fun e h => absurd h (n3 e), fun _ _ => rfl, .same _ _ n1 n2⟩, fun _ _ => rfl, .same _ _ n1 n2, fun h => by simp [quietK, hop] at h⟩
    · cases h
  · rename_i t x k y hop
    split at h
    · rename_i S' fp' hv
      cases h
      obtain ⟨id, bx, rfl, rfl, h2⟩ := evMapUpdate_fp hv
      have hS' := hO id (.inr rfl)
      have hv' := h2 u.S hS'
      exact ⟨⟨u.b, _, by simp [evOp, hop, ht x (by simp [hop, Op.operands]), ht k (by simp [hop, Op.operands]), ht y (by simp [hop, Op.operands]), hv'], (fun e h => by cases h), fun _ _ => rfl, .one hS'.symm⟩, fun _ _ => rfl, .one (V := s.S) rfl, fun h => by simp [quietK, hop] at h⟩
    · cases h
  · rename_i t x lo hi hop
    have ov : ∀ z : Option Operand, (∀ y, z = some y → y ∈ o.op.operands) → z.map (rho u.t) = z.map (rho s.t) := fun z hz => by
      cases z with
      | none => rfl
      | some y => simp [ht y (hz y rfl)]
    have e1 := ov lo fun y hy => by subst hy; simp [hop, Op.operands]
    have e2 := ov hi fun y hy => by subst hy; simp [hop, Op.operands]
    exact fin _ h (by simp [evOp, hop, ht x (by simp [hop, Op.operands]), e1, e2])
  · rename_i p x f hop
    exact fin _ h (by simp [evOp, hop, ht x (by simp [hop, Op.operands])])
  · rename_i p x f hop
    exact fin _ h (by simp [evOp, hop, ht x (by simp [hop, Op.operands])])
  · rename_i p x y hop
    exact fin _ h (by simp [evOp, hop, ht x (by simp [hop, Op.operands]), ht y (by simp [hop, Op.operands])])
  · rename_i p x y hop
    exact fin _ h (by simp [evOp, hop, ht x (by simp [hop, Op.operands]), ht y (by simp [hop, Op.operands])])
  · rename_i x k hop
    split at h
    · rename_i e; exact fin _ h (by simp [evOp, hop, ht x (by simp [hop, Op.operands]), e])
    · cases h
  · rename_i f args ts hop
    have e1 : rhoL u.t args = rhoL s.t args := List.map_congr_left fun x hx => ht x (by simp only [hop, Op.operands, Call.operands]; simp at hx ⊢; exact .inr hx)
    have e2 := ht f (by simp [hop, Op.operands, Call.operands])
    have hcal : ∀ {b' : Nat → Nat × List AV} {S2 : St} {fp2 : FP} {v2 : AV}, evCallee call s (rho s.t f) (rhoL s.t args) = some (.val v2 b' S2 fp2) → b' = s.b ∧ fp2 = .wh ∧ (u.S = s.S → evCallee call u (rho s.t f) (rhoL s.t args) = some (.val v2 u.b S2 .wh)) := fun {b' S2 fp2 v2} h => by
      unfold evCallee at h
      split at h
      · rename_i g first cap hf
        split at h
        · rename_i r S' hcall
          cases h
          exact ⟨rfl, rfl, fun hS' => by simp only [evCallee, hf, hS', hcall]⟩
        · cases h
        · cases h
      · cases h
    split at h
    · rename_i hmk
      obtain ⟨v', b', S2, fp1, fp2, e3, e4, e5⟩ := evCalm_val h
      cases e3
      obtain ⟨rfl, rfl, hu⟩ := hcal e4
      rcases e5 with ⟨rfl, rfl⟩ | ⟨rfl, e5⟩
      · have hS' := hS trivial
        refine ⟨⟨u.b, u.S, ?_, (fun e h => by cases h), fun _ _ => rfl, .same _ _ (by simp) (by simp)⟩, fun _ _ => rfl, .same _ _ (by simp) (by simp), fun h => by simp [quietK, hop] at h⟩
        simp only [evOp, hop, hmk, if_true, e1, e2, evCalm, hu hS', hS', boxEqL_refl, beq_self_eq_true, Bool.and_self]
      · have hS' := hS trivial
        have hne : ¬ ((boxEqL S.H s.S.H && S.T == s.S.T) = true) := fun hq => by
          unfold evCalm at h
          rw [e4] at h
          simp only [hq, if_true] at h
          cases h
        refine ⟨⟨u.b, S, ?_, (fun e h => by cases h), fun _ _ => rfl, by rw [hS']; exact .new e5⟩, fun _ _ => rfl, .new e5, fun h => by simp [quietK, hop] at h⟩
        have hb5 : boxEqL (S.H.take s.S.H.length) s.S.H = true := by rw [e5]; exact boxEqL_refl _
        simp only [evOp, hop, hmk, if_true, e1, e2, evCalm, hu hS', hS', hb5]
        rw [if_neg hne]
    · rename_i hmk
      obtain ⟨rfl, rfl, hu⟩ := hcal h
      have hS' := hS trivial
      exact ⟨⟨u.b, _, by simp only [evOp, hop, e1, e2]; rw [if_neg hmk]; exact hu hS', (fun e h => by cases h), fun _ _ => rfl, .all _ _⟩, fun _ _ => rfl, .all _ _, fun h => by simp [quietK, hop] at h⟩
  · rename_i bi args ts hop
    have e1 : rhoL u.t args = rhoL s.t args := List.map_congr_left fun x hx => ht x (by simp only [hop, Op.operands, Call.operands]; simp at hx ⊢; exact hx)
    have cm : ∀ {mk : Bool}, evBuiltinM cx bi mk ts.toList (rhoL s.t args) s = some (.val v b S fp) → evOp cx call i o u = evBuiltinM cx bi mk ts.toList (rhoL s.t args) u →
        (∃ b' S', evOp cx call i o u = some (.val v b' S' fp) ∧ (∀ e, fp = .wl e → b' e = b e) ∧ (∀ e, fp ≠ .wl e → b' e = u.b e) ∧ SP fp S' S u.S) ∧
        (∀ e, fp ≠ .wl e → b e = s.b e) ∧ SP fp S S s.S ∧ (quietK o = true → fp = .non) := fun {mk} hm hu => by
      obtain ⟨h1, rfl, h3, h4⟩ := builtinM_fp hm
      have hS' : u.S = s.S := hS (by rcases h1 with rfl | ⟨rfl, _⟩ <;> trivial)
      have n3 : ∀ e, fp ≠ .wl e := fun e => by rcases h1 with rfl | ⟨rfl, _⟩ <;> simp
      have hsp : SP fp S S s.S := by
        rcases h1 with rfl | ⟨rfl, rfl⟩
        · exact .all _ _
        · exact .same _ _ (by simp) (by simp)
      refine ⟨⟨u.b, S, by rw [hu]; exact h4 u hS', fun e h => absurd h (n3 e), fun _ _ => rfl, by rw [hS']; exact hsp⟩, fun _ _ => rfl, hsp, fun hquiet => ?_⟩
      rcases h3 with rfl | rfl | rfl <;> simp [quietK, hop] at hquiet
    unfold evBuiltinQ at h
    split at h
    · rename_i hmk
      exact cm h (by simp only [evOp, hop, e1, evBuiltinQ, hmk, if_true])
    · rename_i hmk
      have hev : evOp cx call i o u = (match evBuiltin cx bi ts.toList (rhoL s.t args) u with | some r => some r | none => evBuiltinM cx bi (mkQ cx o.dst) ts.toList (rhoL s.t args) u) := by
        simp only [evOp, hop, e1]
        unfold evBuiltinQ
        rw [if_neg hmk]
        rfl
      split at h
      · rename_i r hr
        cases h
        unfold evBuiltin at hr
        split at hr
        · split at hr
          · rename_i e3 e4
            obtain ⟨q1, rfl, rfl, rfl⟩ := key _ hr
            refine fin (some v) rfl ?_
            rw [hev]
            simp [evBuiltin, e3, e4, q1, goOp]
          · cases hr
        · split at hr
          · rename_i e4
            obtain ⟨q1, rfl, rfl, rfl⟩ := key _ hr
            refine fin (some v) rfl ?_
            rw [hev]
            simp [evBuiltin, e4, q1, goOp]
          · cases hr
        · split at hr
          · rename_i e4
            obtain ⟨q1, rfl, rfl, rfl⟩ := key _ hr
            refine fin (some v) rfl ?_
            rw [hev]
            simp [evBuiltin, e4, q1, goOp]
          · cases hr
        · split at hr
          · rename_i p q e4
            split at hr
            · rename_i r S' hap
              cases hr
              have hS' := hS trivial
              refine ⟨⟨u.b, _, by rw [hev]; simp [evBuiltin, e4, hS', hap], (fun e h => by cases h), fun _ _ => rfl, .all _ _⟩, fun _ _ => rfl, .all _ _, fun h => by simp [quietK, hop] at h⟩
            · cases hr
          · cases hr
        · cases hr
      · rename_i hr
        have hS' : u.S = s.S := hS (by rcases (builtinM_fp h).1 with rfl | ⟨rfl, _⟩ <;> trivial)
        refine cm h ?_
        rw [hev, evBuiltin_none hS' hr]
  · rename_i x hop
    split at h
    · cases h
    · cases h
  · rename_i x xT t hop
    exact fin _ h (by simp [evOp, hop, ht x (by simp [hop, Op.operands])])
  · cases h
end Go.Proofs.YtcpoinfdnimanaaGreatDoor.AE
/- A region that draws its order: one evaluation, in the order of the text, serves every order. Condition of the check 'drawOk': what is in no order touches nothing in common. -/
namespace Go.Proofs.YtcpoinfdnimanaaGreatDoor.AE
set_option linter.unusedVariables false
set_option linter.unusedSimpArgs false
open Go Go.RowKit

theorem stepA_local {cx : Ctx} {call : Cal} {ops : Array Oper} {i : Nat} {o : Oper} {s u s' : FS} {fp : FP} (h : stepA cx call ops i o s = some (.ok s' fp)) (hc : u.c = s.c) (ht : ∀ x ∈ o.looksAt ops, u.t x = s.t x)
    (hb : ∀ d, fp = .rl d ∨ fp = .wl d → u.b d = s.b d) (hS : RA fp → u.S = s.S) (hO : ∀ e, fp = .ro e ∨ fp = .wo e → u.S.H[e]? = s.S.H[e]?) :
    ∃ v, s'.t = putA s.t o.dst v ∧ s'.c = s.c ∧ (∀ e, fp ≠ .wl e → s'.b e = s.b e) ∧ SP fp s'.S s'.S s.S ∧ (quietK o = true → fp = .non) ∧
      ∃ u', stepA cx call ops i o u = some (.ok u' fp) ∧ u'.t = putA u.t o.dst v ∧ u'.c = u.c ∧ (∀ e, fp = .wl e → u'.b e = s'.b e) ∧ (∀ e, fp ≠ .wl e → u'.b e = u.b e) ∧ SP fp u'.S s'.S u.S := by
  have hops : ∀ x ∈ o.op.operands, rho u.t x = rho s.t x := fun x hx => by
    cases x with
    | tmp y =>
      refine ht y ?_
      unfold Oper.looksAt
      refine List.mem_append_left _ (List.mem_filterMap.2 ⟨.tmp y, by simpa using hx, rfl⟩)
    | _ => rfl
  have hw : wantedA o.guard ops u.t = wantedA o.guard ops s.t := by
    unfold wantedA
    cases hg : o.guard with
    | none => rfl
    | some p =>
      obtain ⟨j, want⟩ := p
      simp only
      cases hd : (ops[j]?).bind (·.dst) with
      | none => rfl
      | some d =>
        simp only
        rw [ht d (by unfold Oper.looksAt; refine List.mem_append_right _ ?_; rw [hg]; simp [hd])]
  unfold stepA at h
  split at h
  · rename_i hwant
    split at h
    · rename_i v b S fp' hev
      cases h
      obtain ⟨⟨b', S', e1, e2, e3, e4⟩, f1, f2, f3⟩ := evOp_local hev hc hops hb hS hO
      refine ⟨v, rfl, rfl, f1, f2, f3, ⟨putA u.t o.dst v, b', u.c, S'⟩, ?_, rfl, rfl, e2, e3, e4⟩
      unfold stepA
      simp only [hw, hwant, e1]
    · cases h
    · cases h
  · rename_i hwant
    cases h
    refine ⟨.undef, rfl, rfl, fun _ _ => rfl, .same _ _ (by simp) (by simp), fun _ => rfl, ⟨putA u.t o.dst .undef, u.b, u.c, u.S⟩, ?_, rfl, rfl, (fun e h => by cases h), fun _ _ => rfl, .same _ _ (by simp) (by simp)⟩
    unfold stepA
    simp only [hw, hwant]
  · cases h

/-! ### the check -/
def ordB (ops : Array Oper) (B : Array Nat) (i j : Nat) : Bool :=
  match ops[i]? with
  | some o => o.after.any fun e => Region.binds .any e && (e.on == j || (decide (j < e.on) && (B.getD e.on 0).testBit j))
  | none => false
def pairOk (ps : List (Nat × Nat)) (ops : Array Oper) (B : Array Nat) (i j : Nat) : Bool :=
  if (B.getD i 0).testBit j then ordB ops B i j
  else match ops[j]?, ops[i]? with
    | some x, some y => Oper.apart ops x y && Oper.apart ops y x && (quietK x || quietK y || ps.contains (j, i))
    | _, _ => false
def edgesOk (ops : Array Oper) (i : Nat) : Bool :=
  match ops[i]? with
  | some o => o.after.all fun e => !Region.binds .any e || decide (e.on < i)
  | none => false
/-- a call, or a panic behind all others; what stands behind it in the text waits for it -/
def panOk (ops : Array Oper) (B : Array Nat) (i : Nat) : Bool :=
  (match ops[i]? with
  | some o => (match o.op with | .call ⟨.value _, _, _⟩ => true | .panic _ => (List.range i).all fun j => (B.getD i 0).testBit j | _ => false)
  | none => false) && (List.range ops.size).all fun j => !decide (i < j) || (B.getD j 0).testBit i
def drawOk (ops : Array Oper) (ps : List (Nat × Nat)) : Bool :=
  ((List.range ops.size).all fun i => edgesOk ops i && (List.range i).all fun j => pairOk ps ops (Region.before ops) i j) && ps.all fun p => !(p.1 == p.2) || panOk ops (Region.before ops) p.1

structure Drawn (ops : Array Oper) (ps : List (Nat × Nat)) (B : Array Nat) : Prop where
  edge : ∀ (i : Nat) o, ops[i]? = some o → ∀ e ∈ o.after, Region.binds .any e = true → e.on < i
  pair : ∀ i j, j < i → i < ops.size → pairOk ps ops B i j = true
theorem drawOk_spec {ops : Array Oper} {ps : List (Nat × Nat)} (h : drawOk ops ps = true) : Drawn ops ps (Region.before ops) := by
  unfold drawOk at h
  have h := (Bool.and_eq_true _ _ ▸ h).1
  simp only [List.all_eq_true, List.mem_range, Bool.and_eq_true] at h
  refine ⟨fun i o ho e he hb => ?_, fun i j hj hi => (h i hi).2 j hj⟩
  have hi : i < ops.size := (Array.getElem?_eq_some_iff.1 ho).1
  have h1 := (h i hi).1
  unfold edgesOk at h1
  simp only [ho] at h1
  have h2 := (Array.all_eq_true'.1 h1) e he
  simpa [hb] using h2

/-- listed operations: with what stands ahead of each -/
def Closed (ops : Array Oper) (L : Nat → Prop) : Prop := ∀ (i : Nat) o, ops[i]? = some o → L i → ∀ e ∈ o.after, Region.binds .any e = true → L e.on
theorem Closed.bit {ops : Array Oper} {ps : List (Nat × Nat)} {B : Array Nat} (hd : Drawn ops ps B) {L : Nat → Prop} (hc : Closed ops L) : ∀ (n i j : Nat), i ≤ n → i < ops.size → j < i → (B.getD i 0).testBit j = true → (∀ o, ops[i]? = some o → ∀ e ∈ o.after, Region.binds .any e = true → L e.on) → L j := by
  intro n
  induction n with
  | zero => intro i j hi _ hj; omega
  | succ n ih =>
    intro i j hi hlt hj hbit hL
    have hp := hd.pair i j hj hlt
    unfold pairOk at hp
    rw [if_pos hbit] at hp
    unfold ordB at hp
    split at hp
    · rename_i o ho
      obtain ⟨e, he, hcond⟩ := Array.any_eq_true'.1 hp
      simp only [Bool.and_eq_true, Bool.or_eq_true, beq_iff_eq, decide_eq_true_eq] at hcond
      obtain ⟨hb, hcase⟩ := hcond
      have hLe := hL o ho e he hb
      rcases hcase with rfl | ⟨h1, h2⟩
      · exact hLe
      · have hei := hd.edge i o ho e he hb
        exact ih e.on j (by omega) (by omega) h1 h2 fun o' ho' e' he' hb' => hc e.on o' ho' hLe e' he' hb'
    · cases hp

/-! ### the states on the way -/
theorem lexF_trace {cx : Ctx} {call : Cal} {ops : Array Oper} : ∀ (l : List Oper) (i : Nat) (fs : FS) (acc : List FP) (fs' : FS) (fps : List FP), lexF cx call ops i l fs acc = some (.ok fs' fps) →
    ∃ (st : Nat → FS) (fp : Nat → FP), st i = fs ∧ st (i + l.length) = fs' ∧ fps = acc ++ (List.range' i l.length).map fp ∧ ∀ (k : Nat) o, l[k]? = some o → stepA cx call ops (i + k) o (st (i + k)) = some (.ok (st (i + k + 1)) (fp (i + k)))
  | [], i, fs, acc, fs', fps, h => by
    cases h
    exact ⟨fun _ => fs, fun _ => .non, rfl, rfl, by simp, by simp⟩
  | o :: l, i, fs, acc, fs', fps, h => by
    simp only [lexF] at h
    split at h
    · rename_i fs1 fp1 hs
      obtain ⟨st, fp, h1, h2, h3, h4⟩ := lexF_trace l (i + 1) fs1 (acc ++ [fp1]) fs' fps h
      refine ⟨fun n => if n = i then fs else st n, fun n => if n = i then fp1 else fp n, by simp, ?_, ?_, fun k o' hk => ?_⟩
      · have : i + (l.length + 1) ≠ i := by omega
        simp only [List.length_cons, this, if_false]
        rw [← h2]; congr 1; omega
      · rw [h3, List.length_cons, List.range'_succ, List.map_cons, if_pos rfl, List.append_assoc]
        congr 1
        show fp1 :: _ = fp1 :: _
        congr 1
        refine List.map_congr_left fun n hn => ?_
        obtain ⟨m, _, rfl⟩ := List.mem_range'.1 hn
        rw [if_neg (by omega)]
      · cases k with
        | zero =>
          simp at hk
          subst hk
          simp only [Nat.add_zero, if_true, if_neg (show i + 1 ≠ i by omega), h1, hs]
        | succ k =>
          have := h4 k o' (by simpa using hk)
          have e1 : i + (k + 1) ≠ i := by omega
          have e2 : i + (k + 1) + 1 ≠ i := by omega
          simp only [e1, e2, if_false]
          rw [show i + (k + 1) = i + 1 + k by omega]
          exact this
    · cases h
    · cases h

open Classical in
/-- the value behind the last of those that p picks -/
noncomputable def lastv {α : Type} (p : Nat → Prop) (f : Nat → α) : Nat → α
  | 0 => f 0
  | k + 1 => if p k then f (k + 1) else lastv p f k
theorem lastv_eq {α : Type} {p W : Nat → Prop} {f : Nat → α} {m i : Nat} (hi : i ≤ m) (hconst : ∀ k, k < m → ¬ W k → f (k + 1) = f k) (hb : ∀ k, k < i → W k → p k) (ha : ∀ k, i ≤ k → k < m → ¬ p k) : lastv p f m = f i := by
  have up : ∀ k, k ≤ i → lastv p f k = f k := by
    intro k
    induction k with
    | zero => intro _; rfl
    | succ k ih =>
      intro hk
      unfold lastv
      split
      · rfl
      · rename_i hp
        rw [ih (by omega), hconst k (by omega) fun hw => hp (hb k (by omega) hw)]
  have down : ∀ k, i ≤ k → k ≤ m → lastv p f k = lastv p f i := by
    intro k
    induction k with
    | zero => intro h _; rw [Nat.le_zero.1 h]
    | succ k ih =>
      intro h1 h2
      rcases Nat.eq_or_lt_of_le h1 with h | h
      · rw [h]
      · rw [← ih (by omega) (by omega)]
        rw [lastv, if_neg (ha k (by omega) (by omega))]
  rw [down m hi (Nat.le_refl _), up i (Nat.le_refl _)]
theorem lastv_congr {α : Type} {p q : Nat → Prop} {f : Nat → α} {m : Nat} (h : ∀ k, k < m → (p k ↔ q k)) : lastv p f m = lastv q f m := by
  induction m with
  | zero => rfl
  | succ m ih =>
    unfold lastv
    rw [ih fun k hk => h k (by omega)]
    by_cases hp : p m
    · rw [if_pos hp, if_pos ((h m (by omega)).1 hp)]
    · rw [if_neg hp, if_neg fun hq => hp ((h m (by omega)).2 hq)]

/-- the part outside, when just those of L have been done, of the first m -/
structure IsS (st : Nat → FS) (fp : Nat → FP) (m : Nat) (L : Nat → Prop) (S : St) : Prop where
  T : S.T = lastv (fun k => L k ∧ WT (fp k)) (fun n => (st n).S.T) m
  H : ∀ e, S.H[e]? = lastv (fun k => L k ∧ (WH (fp k) e)) (fun n => (st n).S.H[e]?) m
theorem FS.ext2 {a b : FS} (h1 : ∀ x, a.t x = b.t x) (h2 : ∀ x, a.b x = b.b x) (h3 : a.c = b.c) (h4 : a.S = b.S) : a = b := by
  cases a; cases b
  simp only at h1 h2 h3 h4
  rw [h3, h4, funext h1, funext h2]
theorem St.ext2 {S S' : St} (h1 : S.T = S'.T) (h2 : ∀ e : Nat, S.H[e]? = S'.H[e]?) : S = S' := by
  cases S; cases S'
  simp only at h1 h2
  rw [h1, List.ext_getElem? h2]
theorem SP.t {fp : FP} {S' S U : St} (h : SP fp S' S U) (h1 : ¬ WT fp) : S'.T = U.T := h.2.2.2 h1
theorem SP.h {fp : FP} {S' S U : St} (h : SP fp S' S U) {e : Nat} (h1 : ¬ WH fp e) : S'.H[e]? = U.H[e]? := h.2.2.1 e h1
theorem SP.h1 {fp : FP} {S' S U : St} (h : SP fp S' S U) {e : Nat} (h1 : WH fp e) : S'.H[e]? = S.H[e]? := h.2.1 e h1
theorem clash_RT {x y : FP} (hx : RA x) (hy : WT y) : FP.clash y x = true ∧ FP.clash x y = true := by
  cases x <;> simp at hx <;> cases y <;> simp at hy <;> simp [FP.clash]
theorem clash_RH {x y : FP} {e : Nat} (hx : RA x) (hy : WH y e) : FP.clash y x = true ∧ FP.clash x y = true := by
  cases x <;> simp at hx <;> cases y <;> simp at hy <;> simp [FP.clash]
theorem clash_OH {x y : FP} {e : Nat} (hx : x = .ro e ∨ x = .wo e) (hy : WH y e) : FP.clash y x = true ∧ FP.clash x y = true := by
  rcases hx with rfl | rfl <;> cases y <;> simp at hy <;> simp [FP.clash, hy]
theorem clash_TT {x y : FP} (hx : WT x) (hy : WT y) : FP.clash y x = true ∧ FP.clash x y = true := by
  cases x <;> simp at hx <;> cases y <;> simp at hy <;> simp [FP.clash]
theorem clash_HH {x y : FP} {e : Nat} (hx : WH x e) (hy : WH y e) : FP.clash y x = true ∧ FP.clash x y = true := by
  cases x <;> simp at hx <;> cases y <;> simp at hy <;> simp_all [FP.clash]

/-- the frame when just those of L have been done -/
noncomputable def stateAt (ops : Array Oper) (st : Nat → FS) (fp : Nat → FP) (L : Nat → Prop) (S : St) : FS where
  t x := lastv (fun k => L k ∧ (ops[k]?).bind (·.dst) = some x) (fun n => (st n).t x) ops.size
  b d := lastv (fun k => L k ∧ fp k = .wl d) (fun n => (st n).b d) ops.size
  c := (st 0).c
  S := S

theorem looksAt_apart {ops : Array Oper} {x y : Oper} (h : Oper.apart ops x y = true) {d : Tmp} (hd : x.dst = some d) : d ∉ y.looksAt ops ∧ y.dst ≠ some d := by
  unfold Oper.apart at h
  rw [hd] at h
  simp only [Bool.and_eq_true, Bool.not_eq_true', bne_iff_ne, ne_eq] at h
  refine ⟨fun hm => ?_, h.1.2⟩
  have := h.1.1
  rw [List.contains_iff_mem.2 hm] at this
  cases this

theorem noClash_spec {fps : List FP} {ps : List (Nat × Nat)} (h : noClash fps ps = true) {i j : Nat} (hm : (i, j) ∈ ps) (hij : i ≠ j) {a b : FP} (ha : fps[i]? = some a) (hb : fps[j]? = some b) : FP.clash a b = false := by
  induction ps with
  | nil => cases hm
  | cons p ps ih =>
    obtain ⟨x, y⟩ := p
    simp only [noClash, Bool.and_eq_true] at h
    rcases List.mem_cons.1 hm with e | e
    · cases e
      have h1 := h.1
      have : (i == j) = false := by simp [hij]
      rw [this, ha, hb] at h1
      simpa using h1
    · exact ih h.2 e

/-- listed: as the model's array says -/
def Ls (listed : Array Bool) (k : Nat) : Prop := listed.getD k false = true

theorem draw_sound {F : Fix} {nt : Nat} {call : Cal} {ops : Array Oper} {ps : List (Nat × Nat)} {fs fs' : FS} {fps : List FP} {G : Gh} {a : Act} {w : World} (hm : F.cx.P.follows .mixedOrders = true)
    (hd : ∀ (i : Nat) o, ops[i]? = some o → ∀ d, o.dst = some d → d < nt) (hc : CalOK F.cx.P call F.cx.dep) (hok : drawOk ops ps = true) (h : FR F nt (fun _ => False) fs G a w)
    (hs : lexF F.cx call ops 0 ops.toList fs [] = some (.ok fs' fps)) (hcl : noClash fps ps = true) {Q : Exit → Act → World → Prop}
    (hq : ∀ G' a' w', FR F nt (fun j => j < ops.size) fs' G' a' w' → Q .normal a' w') : wpAny F.cx.P .any ops Q ops.size (Array.replicate ops.size false) a { w with drawn := w.drawn + 1 } := by
  have hD := drawOk_spec hok
  obtain ⟨st, fp, h1, h2, h3, h4⟩ := lexF_trace ops.toList 0 fs [] fs' fps hs
  simp only [Nat.zero_add, Array.length_toList, List.nil_append] at h2 h3 h4
  have hfp : ∀ k, k < ops.size → fps[k]? = some (fp k) := fun k hk => by
    rw [h3, List.getElem?_map, List.getElem?_range' hk]; simp
  -- each step, as it stands in the text
  have step : ∀ (k : Nat) o, ops[k]? = some o → stepA F.cx call ops k o (st k) = some (.ok (st (k + 1)) (fp k)) := fun k o hk => h4 k o (by simpa using hk)
  have hself : ∀ (k : Nat) o, ops[k]? = some o → (∃ v, (st (k + 1)).t = putA (st k).t o.dst v) ∧ (st (k + 1)).c = (st k).c ∧ (∀ e, fp k ≠ .wl e → (st (k + 1)).b e = (st k).b e) ∧ SP (fp k) (st (k + 1)).S (st (k + 1)).S (st k).S ∧ (quietK o = true → fp k = .non) := fun k o hk => by
    obtain ⟨v, e1, e2, e3, e4, e5, _⟩ := stepA_local (step k o hk) rfl (fun _ _ => rfl) (fun _ _ => rfl) (fun _ => rfl) (fun _ _ => rfl)
    exact ⟨⟨v, e1⟩, e2, e3, e4, e5⟩
  have hget : ∀ k, k < ops.size → ∃ o, ops[k]? = some o := fun k hk => ⟨ops[k], by simp [hk]⟩
  have hcc : ∀ k, k ≤ ops.size → (st k).c = (st 0).c := by
    intro k
    induction k with
    | zero => intro _; rfl
    | succ k ih => intro hk; obtain ⟨o, ho⟩ := hget k (by omega); rw [(hself k o ho).2.1, ih (by omega)]
  have tconst : ∀ x k, k < ops.size → ¬ ((ops[k]?).bind (·.dst) = some x) → (st (k + 1)).t x = (st k).t x := fun x k hk hn => by
    obtain ⟨o, ho⟩ := hget k hk
    obtain ⟨v, e⟩ := (hself k o ho).1
    rw [e]
    cases hdst : o.dst with
    | none => rfl
    | some d =>
      have : x ≠ d := fun hx => hn (by simp [ho, hdst, hx])
      simp [putA, upd, this]
  have bconst : ∀ d k, k < ops.size → ¬ (fp k = .wl d) → (st (k + 1)).b d = (st k).b d := fun d k hk hn => by
    obtain ⟨o, ho⟩ := hget k hk; exact (hself k o ho).2.2.1 d hn
  have Tconst : ∀ k, k < ops.size → ¬ (WT (fp k)) → (st (k + 1)).S.T = (st k).S.T := fun k hk hn => by
    obtain ⟨o, ho⟩ := hget k hk; exact (hself k o ho).2.2.2.1.t hn
  have Hconst : ∀ e k, k < ops.size → ¬ (WH (fp k) e) → (st (k + 1)).S.H[e]? = (st k).S.H[e]? := fun e k hk hn => by
    obtain ⟨o, ho⟩ := hget k hk; exact (hself k o ho).2.2.2.1.h hn
  -- two that clash are in order
  have ordered : ∀ i j oi oj, j < i → ops[i]? = some oi → ops[j]? = some oj → ((∃ d, oj.dst = some d ∧ (d ∈ oi.looksAt ops ∨ oi.dst = some d)) ∨ (∃ d, oi.dst = some d ∧ d ∈ oj.looksAt ops) ∨ FP.clash (fp j) (fp i) = true) →
      ((Region.before ops).getD i 0).testBit j = true := fun i j oi oj hji hi hj hcase => by
    have hilt := (Array.getElem?_eq_some_iff.1 hi).1
    have hp := hD.pair i j hji hilt
    unfold pairOk at hp
    split at hp
    · assumption
    · rw [hi, hj] at hp
      simp only [Bool.and_eq_true, Bool.or_eq_true] at hp
      obtain ⟨⟨p1, p2⟩, p3⟩ := hp
      exfalso
      rcases hcase with ⟨d, c1, c2⟩ | ⟨d, c1, c2⟩ | c
      · have := looksAt_apart p1 c1
        rcases c2 with c2 | c2
        · exact this.1 c2
        · exact this.2 c2
      · exact (looksAt_apart p2 c1).1 c2
      · rcases p3 with (p3 | p3) | p3
        · rw [(hself j oj hj).2.2.2.2 p3] at c
          cases hfi : fp i <;> rw [hfi] at c <;> simp [FP.clash] at c
        · rw [(hself i oi hi).2.2.2.2 p3] at c
          cases hfj : fp j <;> rw [hfj] at c <;> simp [FP.clash] at c
        · have e3 := noClash_spec hcl (List.contains_iff_mem.1 p3) (by omega) (hfp j (by omega)) (hfp i hilt)
          rw [c] at e3; cases e3
  have main : ∀ (fuel : Nat) (listed : Array Bool) (S : St) (G : Gh) (a : Act) (w : World), IsS st fp ops.size (Ls listed) S → listed.size = ops.size → Closed ops (Ls listed) →
      (List.range ops.size).countP (fun k => !listed.getD k false) ≤ fuel → FR F nt (Ls listed) (stateAt ops st fp (Ls listed) S) G a w → wpAny F.cx.P .any ops Q fuel listed a w := by
    have fin : ∀ (listed : Array Bool) (S : St) (G : Gh) (a : Act) (w : World), IsS st fp ops.size (Ls listed) S → listed.size = ops.size → Closed ops (Ls listed) → Region.ready .any ops listed = [] → FR F nt (Ls listed) (stateAt ops st fp (Ls listed) S) G a w → Q .normal a w := by
      intro listed S G a w hS hsz hclo hr hfr
      have all : ∀ k, k < ops.size → Ls listed k := by
        intro k
        induction k using Nat.strongRecOn with
        | _ k ih =>
          intro hk
          obtain ⟨o, ho⟩ := hget k hk
          by_cases hl : Ls listed k
          · exact hl
          · exfalso
            have : k ∈ Region.ready .any ops listed := mem_ready.2 ⟨by
              unfold Ls at hl
              rw [Array.getD_eq_getD_getElem?] at hl ⊢
              cases hh : listed[k]? with
              | none => rw [Array.getElem?_eq_none_iff] at hh; omega
              | some b => rw [hh] at hl; simpa using hl, o, ho, fun e he hb => ih e.on (hD.edge k o ho e he hb) (by have := hD.edge k o ho e he hb; omega)⟩
            rw [hr] at this; cases this
      have hst : stateAt ops st fp (Ls listed) S = fs' := by
        rw [← h2]
        have e1 : ∀ x, (stateAt ops st fp (Ls listed) S).t x = (st ops.size).t x := fun x =>
          lastv_eq (W := fun k => (ops[k]?).bind (·.dst) = some x) (Nat.le_refl _) (tconst x) (fun k hk hw => ⟨all k hk, hw⟩) (fun k h1 h2 => by omega)
        have e2 : ∀ d, (stateAt ops st fp (Ls listed) S).b d = (st ops.size).b d := fun d =>
          lastv_eq (W := fun k => fp k = .wl d) (Nat.le_refl _) (bconst d) (fun k hk hw => ⟨all k hk, hw⟩) (fun k h1 h2 => by omega)
        have e3 : (stateAt ops st fp (Ls listed) S).S = (st ops.size).S := St.ext2
          (hS.T.trans (lastv_eq (W := fun k => WT (fp k)) (Nat.le_refl _) Tconst (fun k hk hw => ⟨all k hk, hw⟩) (fun k h1 h2 => by omega)))
          (fun e => (hS.H e).trans (lastv_eq (W := fun k => WH (fp k) e) (Nat.le_refl _) (Hconst e) (fun k hk hw => ⟨all k hk, hw⟩) (fun k h1 h2 => by omega)))
        have e4 : (stateAt ops st fp (Ls listed) S).c = (st ops.size).c := (hcc _ (Nat.le_refl _)).symm
        exact FS.ext2 e1 e2 e4 e3
      rw [hst] at hfr
      refine hq G a w (hfr.weak fun j hj => ?_)
      unfold Ls at hj
      rw [Array.getD_eq_getD_getElem?] at hj
      cases hh : listed[j]? with
      | none => rw [hh] at hj; simp at hj
      | some b => have := (Array.getElem?_eq_some_iff.1 hh).1; omega
    intro fuel
    induction fuel with
    | zero =>
      intro listed S G a w hS hsz hclo hcount hfr
      have hr : Region.ready .any ops listed = [] := by
        cases hrr : Region.ready .any ops listed with
        | nil => rfl
        | cons i l =>
          exfalso
          obtain ⟨r1, o, r2, _⟩ := mem_ready.1 (show i ∈ Region.ready .any ops listed by rw [hrr]; simp)
          have hi := (Array.getElem?_eq_some_iff.1 r2).1
          have : 0 < (List.range ops.size).countP (fun k => !listed.getD k false) := List.countP_pos_iff.2 ⟨i, by simpa using hi, by
            rw [Array.getD_eq_getD_getElem?] at r1 ⊢
            cases hh : listed[i]? with
            | none => simp
            | some b => rw [hh] at r1; simpa using r1⟩
          omega
      exact ⟨hr, fin listed S G a w hS hsz hclo hr hfr⟩
    | succ fuel ih =>
      intro listed S G a w hS hsz hclo hcount hfr
      refine ⟨fun hr => fin listed S G a w hS hsz hclo hr hfr, fun i hi => ?_⟩
      obtain ⟨r1, o, r2, r3⟩ := mem_ready.1 hi
      have hilt := (Array.getElem?_eq_some_iff.1 r2).1
      have hin : ¬ Ls listed i := fun hl => by
        unfold Ls at hl
        rw [Array.getD_eq_getD_getElem?] at hl r1
        cases hh : listed[i]? with
        | none => rw [hh] at hl; simp at hl
        | some b => rw [hh] at hl r1; simp at hl r1; rw [hl] at r1; cases r1
      -- what stands ahead of i is listed; what i stands ahead of is not
      have before : ∀ j, j < i → ((Region.before ops).getD i 0).testBit j = true → Ls listed j := fun j hj hb => hclo.bit hD i i j (Nat.le_refl _) hilt hj hb fun o' ho' e he hb' => by
        rw [r2] at ho'; cases ho'; exact r3 e he hb'
      have behind : ∀ j, i < j → j < ops.size → ((Region.before ops).getD j 0).testBit i = true → ¬ Ls listed j := fun j hj hjl hb hl => hin (hclo.bit hD j j i (Nat.le_refl _) hjl hj hb fun o' ho' e he hb' => hclo j o' ho' hl e he hb')
      have tval : ∀ x, (x ∈ o.looksAt ops) → (stateAt ops st fp (Ls listed) S).t x = (st i).t x := fun x hx =>
        lastv_eq (W := fun k => (ops[k]?).bind (·.dst) = some x) (Nat.le_of_lt hilt) (tconst x) (fun k hk hw => by
          obtain ⟨ok, hok⟩ := hget k (by omega)
          simp [hok] at hw
          exact ⟨before k hk (ordered i k o ok hk r2 hok (.inl ⟨x, hw, .inl hx⟩)), by simp [hok, hw]⟩) (fun k k1 k2 ⟨hl, hw⟩ => by
          rcases Nat.eq_or_lt_of_le k1 with e | e
          · rw [← e] at hl; exact hin hl
          · obtain ⟨ok, hok⟩ := hget k k2
            simp [hok] at hw
            exact behind k e k2 (ordered k i ok o e hok r2 (.inr (.inl ⟨x, hw, hx⟩))) hl)
      have bval : ∀ d, (fp i = .rl d ∨ fp i = .wl d) → (stateAt ops st fp (Ls listed) S).b d = (st i).b d := fun d hx =>
        lastv_eq (W := fun k => fp k = .wl d) (Nat.le_of_lt hilt) (bconst d) (fun k hk hw => by
          obtain ⟨ok, hok⟩ := hget k (by omega)
          exact ⟨before k hk (ordered i k o ok hk r2 hok (.inr (.inr (by first | (rcases hx with e | e <;> simp [hw, e, FP.clash]; done) | exact (clash_RT hx hw).1 | exact (clash_RT hx hw).2 | exact (clash_RH hx hw).1 | exact (clash_RH hx hw).2 | exact (clash_OH hx hw).1 | exact (clash_OH hx hw).2 | exact (clash_TT hx hw).1 | exact (clash_TT hx hw).2 | exact (clash_HH hx hw).1 | exact (clash_HH hx hw).2)))), hw⟩) (fun k k1 k2 ⟨hl, hw⟩ => by
          rcases Nat.eq_or_lt_of_le k1 with e | e
          · rw [← e] at hl; exact hin hl
          · obtain ⟨ok, hok⟩ := hget k k2
            exact behind k e k2 (ordered k i ok o e hok r2 (.inr (.inr (by first | (rcases hx with e' | e' <;> simp [hw, e', FP.clash]; done) | exact (clash_RT hx hw).1 | exact (clash_RT hx hw).2 | exact (clash_RH hx hw).1 | exact (clash_RH hx hw).2 | exact (clash_OH hx hw).1 | exact (clash_OH hx hw).2 | exact (clash_TT hx hw).1 | exact (clash_TT hx hw).2 | exact (clash_HH hx hw).1 | exact (clash_HH hx hw).2)))) hl)
      have Sval : (RA (fp i)) → S = (st i).S := fun hx => St.ext2
        (hS.T.trans (lastv_eq (W := fun k => WT (fp k)) (Nat.le_of_lt hilt) Tconst (fun k hk hw => by
          obtain ⟨ok, hok⟩ := hget k (by omega)
          exact ⟨before k hk (ordered i k o ok hk r2 hok (.inr (.inr (by first | (rcases hx with e | e <;> simp [hw, e, FP.clash]; done) | exact (clash_RT hx hw).1 | exact (clash_RT hx hw).2 | exact (clash_RH hx hw).1 | exact (clash_RH hx hw).2 | exact (clash_OH hx hw).1 | exact (clash_OH hx hw).2 | exact (clash_TT hx hw).1 | exact (clash_TT hx hw).2 | exact (clash_HH hx hw).1 | exact (clash_HH hx hw).2)))), hw⟩) (fun k k1 k2 ⟨hl, hw⟩ => by
          rcases Nat.eq_or_lt_of_le k1 with e' | e'
          · rw [← e'] at hl; exact hin hl
          · obtain ⟨ok, hok⟩ := hget k k2
            exact behind k e' k2 (ordered k i ok o e' hok r2 (.inr (.inr (by first | (rcases hx with e | e <;> simp [hw, e, FP.clash]; done) | exact (clash_RT hx hw).1 | exact (clash_RT hx hw).2 | exact (clash_RH hx hw).1 | exact (clash_RH hx hw).2 | exact (clash_OH hx hw).1 | exact (clash_OH hx hw).2 | exact (clash_TT hx hw).1 | exact (clash_TT hx hw).2 | exact (clash_HH hx hw).1 | exact (clash_HH hx hw).2)))) hl)))
        (fun e => (hS.H e).trans (lastv_eq (W := fun k => WH (fp k) e) (Nat.le_of_lt hilt) (Hconst e) (fun k hk hw => by
          obtain ⟨ok, hok⟩ := hget k (by omega)
          exact ⟨before k hk (ordered i k o ok hk r2 hok (.inr (.inr (by first | (rcases hx with e2 | e2 <;> rcases hw with hw | hw <;> simp [hw, e2, FP.clash]; done) | exact (clash_RT hx hw).1 | exact (clash_RT hx hw).2 | exact (clash_RH hx hw).1 | exact (clash_RH hx hw).2 | exact (clash_OH hx hw).1 | exact (clash_OH hx hw).2 | exact (clash_TT hx hw).1 | exact (clash_TT hx hw).2 | exact (clash_HH hx hw).1 | exact (clash_HH hx hw).2)))), hw⟩) (fun k k1 k2 ⟨hl, hw⟩ => by
          rcases Nat.eq_or_lt_of_le k1 with e' | e'
          · rw [← e'] at hl; exact hin hl
          · obtain ⟨ok, hok⟩ := hget k k2
            exact behind k e' k2 (ordered k i ok o e' hok r2 (.inr (.inr (by first | (rcases hx with e2 | e2 <;> rcases hw with hw | hw <;> simp [hw, e2, FP.clash]; done) | exact (clash_RT hx hw).1 | exact (clash_RT hx hw).2 | exact (clash_RH hx hw).1 | exact (clash_RH hx hw).2 | exact (clash_OH hx hw).1 | exact (clash_OH hx hw).2 | exact (clash_TT hx hw).1 | exact (clash_TT hx hw).2 | exact (clash_HH hx hw).1 | exact (clash_HH hx hw).2)))) hl)))
      have Oval : ∀ e, (fp i = .ro e ∨ fp i = .wo e) → S.H[e]? = (st i).S.H[e]? := fun e hx => (hS.H e).trans
        (lastv_eq (W := fun k => WH (fp k) e) (Nat.le_of_lt hilt) (Hconst e) (fun k hk hw => by
          obtain ⟨ok, hok⟩ := hget k (by omega)
          exact ⟨before k hk (ordered i k o ok hk r2 hok (.inr (.inr (by first | (rcases hx with e2 | e2 <;> rcases hw with hw | hw <;> simp [hw, e2, FP.clash]; done) | exact (clash_RT hx hw).1 | exact (clash_RT hx hw).2 | exact (clash_RH hx hw).1 | exact (clash_RH hx hw).2 | exact (clash_OH hx hw).1 | exact (clash_OH hx hw).2 | exact (clash_TT hx hw).1 | exact (clash_TT hx hw).2 | exact (clash_HH hx hw).1 | exact (clash_HH hx hw).2)))), hw⟩) (fun k k1 k2 ⟨hl, hw⟩ => by
          rcases Nat.eq_or_lt_of_le k1 with e' | e'
          · rw [← e'] at hl; exact hin hl
          · obtain ⟨ok, hok⟩ := hget k k2
            exact behind k e' k2 (ordered k i ok o e' hok r2 (.inr (.inr (by first | (rcases hx with e2 | e2 <;> rcases hw with hw | hw <;> simp [hw, e2, FP.clash]; done) | exact (clash_RT hx hw).1 | exact (clash_RT hx hw).2 | exact (clash_RH hx hw).1 | exact (clash_RH hx hw).2 | exact (clash_OH hx hw).1 | exact (clash_OH hx hw).2 | exact (clash_TT hx hw).1 | exact (clash_TT hx hw).2 | exact (clash_HH hx hw).1 | exact (clash_HH hx hw).2)))) hl))
      obtain ⟨v, s1, s2, s3, s4, s5, u', u1, u2, u3, u4, u5, u6⟩ := stepA_local (u := stateAt ops st fp (Ls listed) S) (step i o r2) (hcc i (Nat.le_of_lt hilt)).symm tval bval Sval Oval
      have hL' : ∀ k, Ls (listed.setIfInBounds i true) k ↔ Ls listed k ∨ k = i := fun k => by
        by_cases hk : k = i
        · subst hk
          simp [Ls, hsz, hilt]
        · simp only [Ls, getD_set_ne false (Ne.symm hk), hk, or_false]
      have hS' : IsS st fp ops.size (Ls (listed.setIfInBounds i true)) u'.S := by
        refine ⟨?_, fun e => ?_⟩
        · by_cases hx : WT (fp i)
          · rw [u6.1 hx]
            refine Eq.symm ?_
            exact lastv_eq (W := fun k => WT (fp k)) hilt Tconst (fun k hk hw => by
                refine ⟨(hL' k).2 ?_, hw⟩
                by_cases hki : k = i
                · exact .inr hki
                · obtain ⟨ok, hok⟩ := hget k (by omega)
                  exact .inl (before k (by omega) (ordered i k o ok (by omega) r2 hok (.inr (.inr (by first | (simp [hw, hx, FP.clash]; done) | exact (clash_RT hx hw).1 | exact (clash_RT hx hw).2 | exact (clash_RH hx hw).1 | exact (clash_RH hx hw).2 | exact (clash_OH hx hw).1 | exact (clash_OH hx hw).2 | exact (clash_TT hx hw).1 | exact (clash_TT hx hw).2 | exact (clash_HH hx hw).1 | exact (clash_HH hx hw).2)))))) (fun k k1 k2 ⟨hl, hw⟩ => by
                rcases (hL' k).1 hl with hl | e
                · obtain ⟨ok, hok⟩ := hget k k2
                  exact behind k (by omega) k2 (ordered k i ok o (by omega) hok r2 (.inr (.inr (by first | (simp [hw, hx, FP.clash]; done) | exact (clash_RT hx hw).1 | exact (clash_RT hx hw).2 | exact (clash_RH hx hw).1 | exact (clash_RH hx hw).2 | exact (clash_OH hx hw).1 | exact (clash_OH hx hw).2 | exact (clash_TT hx hw).1 | exact (clash_TT hx hw).2 | exact (clash_HH hx hw).1 | exact (clash_HH hx hw).2)))) hl
                · omega)
          · rw [u6.t hx]
            refine hS.T.trans ?_
            exact lastv_congr fun k hk => by
              rw [hL']
              constructor
              · rintro ⟨h1, h2⟩; exact ⟨.inl h1, h2⟩
              · rintro ⟨h1 | h1, h2⟩
                · exact ⟨h1, h2⟩
                · subst h1; exact absurd h2 hx
        · by_cases hx : WH (fp i) e
          · rw [u6.h1 hx]
            refine Eq.symm ?_
            exact lastv_eq (W := fun k => WH (fp k) e) hilt (Hconst e) (fun k hk hw => by
                refine ⟨(hL' k).2 ?_, hw⟩
                by_cases hki : k = i
                · exact .inr hki
                · obtain ⟨ok, hok⟩ := hget k (by omega)
                  exact .inl (before k (by omega) (ordered i k o ok (by omega) r2 hok (.inr (.inr (by first | (rcases hx with e2 | e2 <;> rcases hw with hw | hw <;> simp [hw, e2, FP.clash]; done) | exact (clash_RT hx hw).1 | exact (clash_RT hx hw).2 | exact (clash_RH hx hw).1 | exact (clash_RH hx hw).2 | exact (clash_OH hx hw).1 | exact (clash_OH hx hw).2 | exact (clash_TT hx hw).1 | exact (clash_TT hx hw).2 | exact (clash_HH hx hw).1 | exact (clash_HH hx hw).2)))))) (fun k k1 k2 ⟨hl, hw⟩ => by
                rcases (hL' k).1 hl with hl | e
                · obtain ⟨ok, hok⟩ := hget k k2
                  exact behind k (by omega) k2 (ordered k i ok o (by omega) hok r2 (.inr (.inr (by first | (rcases hx with e2 | e2 <;> rcases hw with hw | hw <;> simp [hw, e2, FP.clash]; done) | exact (clash_RT hx hw).1 | exact (clash_RT hx hw).2 | exact (clash_RH hx hw).1 | exact (clash_RH hx hw).2 | exact (clash_OH hx hw).1 | exact (clash_OH hx hw).2 | exact (clash_TT hx hw).1 | exact (clash_TT hx hw).2 | exact (clash_HH hx hw).1 | exact (clash_HH hx hw).2)))) hl
                · omega)
          · rw [u6.h hx]
            refine (hS.H e).trans ?_
            exact lastv_congr fun k hk => by
              rw [hL']
              constructor
              · rintro ⟨h1, h2⟩; exact ⟨.inl h1, h2⟩
              · rintro ⟨h1 | h1, h2⟩
                · exact ⟨h1, h2⟩
                · subst h1; exact absurd h2 hx
      have hu : u' = stateAt ops st fp (Ls (listed.setIfInBounds i true)) u'.S := by
        have e1 : ∀ x, u'.t x = (stateAt ops st fp (Ls (listed.setIfInBounds i true)) u'.S).t x := fun x => by
          rw [u2]
          by_cases hx : o.dst = some x
          · have : putA (stateAt ops st fp (Ls listed) S).t o.dst v x = v := by simp [putA, hx, upd]
            rw [this]
            have e : (stateAt ops st fp (Ls (listed.setIfInBounds i true)) u'.S).t x = (st (i + 1)).t x :=
              lastv_eq (W := fun k => (ops[k]?).bind (·.dst) = some x) hilt (tconst x) (fun k hk hw => by
                refine ⟨(hL' k).2 ?_, hw⟩
                by_cases hki : k = i
                · exact .inr hki
                · obtain ⟨ok, hok⟩ := hget k (by omega)
                  simp [hok] at hw
                  exact .inl (before k (by omega) (ordered i k o ok (by omega) r2 hok (.inl ⟨x, hw, .inr hx⟩)))) (fun k k1 k2 ⟨hl, hw⟩ => by
                rcases (hL' k).1 hl with hl | e
                · obtain ⟨ok, hok⟩ := hget k k2
                  simp [hok] at hw
                  exact behind k (by omega) k2 (ordered k i ok o (by omega) hok r2 (.inl ⟨x, hx, .inr hw⟩)) hl
                · omega)
            rw [e, s1]
            simp [putA, hx, upd]
          · have : putA (stateAt ops st fp (Ls listed) S).t o.dst v x = (stateAt ops st fp (Ls listed) S).t x := by
              cases hdst : o.dst with
              | none => rfl
              | some d =>
                have : x ≠ d := fun h' => hx (by rw [hdst, h'])
                simp [putA, upd, this]
            rw [this]
            exact lastv_congr fun k hk => by
              rw [hL']
              constructor
              · rintro ⟨h1, h2⟩; exact ⟨.inl h1, h2⟩
              · rintro ⟨h1 | h1, h2⟩
                · exact ⟨h1, h2⟩
                · subst h1; simp [r2] at h2; exact absurd h2 hx
        have e2 : ∀ d, u'.b d = (stateAt ops st fp (Ls (listed.setIfInBounds i true)) u'.S).b d := fun d => by
          by_cases hx : fp i = .wl d
          · rw [u4 d hx]
            have e : (stateAt ops st fp (Ls (listed.setIfInBounds i true)) u'.S).b d = (st (i + 1)).b d := (lastv_eq (W := fun k => fp k = .wl d) hilt (bconst d) (fun k hk hw => by
                refine ⟨(hL' k).2 ?_, hw⟩
                by_cases hki : k = i
                · exact .inr hki
                · obtain ⟨ok, hok⟩ := hget k (by omega)
                  exact .inl (before k (by omega) (ordered i k o ok (by omega) r2 hok (.inr (.inr (by first | (simp [hw, hx, FP.clash]; done) | exact (clash_RT hx hw).1 | exact (clash_RT hx hw).2 | exact (clash_RH hx hw).1 | exact (clash_RH hx hw).2 | exact (clash_OH hx hw).1 | exact (clash_OH hx hw).2 | exact (clash_TT hx hw).1 | exact (clash_TT hx hw).2 | exact (clash_HH hx hw).1 | exact (clash_HH hx hw).2)))))) (fun k k1 k2 ⟨hl, hw⟩ => by
                rcases (hL' k).1 hl with hl | e
                · obtain ⟨ok, hok⟩ := hget k k2
                  exact behind k (by omega) k2 (ordered k i ok o (by omega) hok r2 (.inr (.inr (by first | (simp [hw, hx, FP.clash]; done) | exact (clash_RT hx hw).1 | exact (clash_RT hx hw).2 | exact (clash_RH hx hw).1 | exact (clash_RH hx hw).2 | exact (clash_OH hx hw).1 | exact (clash_OH hx hw).2 | exact (clash_TT hx hw).1 | exact (clash_TT hx hw).2 | exact (clash_HH hx hw).1 | exact (clash_HH hx hw).2)))) hl
                · omega))
            exact e.symm
          · rw [u5 d hx]
            exact lastv_congr fun k hk => by
              rw [hL']
              constructor
              · rintro ⟨h1, h2⟩; exact ⟨.inl h1, h2⟩
              · rintro ⟨h1 | h1, h2⟩
                · exact ⟨h1, h2⟩
                · subst h1; exact absurd h2 hx
        have e3 : u'.S = (stateAt ops st fp (Ls (listed.setIfInBounds i true)) u'.S).S := rfl
        have e4 : u'.c = (stateAt ops st fp (Ls (listed.setIfInBounds i true)) u'.S).c := u3
        exact FS.ext2 e1 e2 e4 e3
      have hstep := stepA_sound r2 hfr hin (hd i o r2) hc u1
      refine hstep _ Q fun G' a' w' hfr' => ih (listed.setIfInBounds i true) u'.S G' a' w' hS' (by simp [hsz]) (fun j oj hj hl e he hb => ?_) ?_ ?_
      · rcases (hL' j).1 hl with hl | rfl
        · exact (hL' _).2 (.inl (hclo j oj hj hl e he hb))
        · rw [r2] at hj; cases hj; exact (hL' _).2 (.inl (r3 e he hb))
      · have : (List.range ops.size).countP (fun k => !(listed.setIfInBounds i true).getD k false) < (List.range ops.size).countP (fun k => !listed.getD k false) := by
          have e1 : (List.range ops.size).countP (fun k => !listed.getD k false) = (List.range ops.size).countP (fun k => !(listed.setIfInBounds i true).getD k false) + (List.range ops.size).countP (fun k => k == i) := by
            have gen : ∀ l : List Nat, l.countP (fun k => !listed.getD k false) = l.countP (fun k => !(listed.setIfInBounds i true).getD k false) + l.countP (fun k => k == i) := by
              intro l
              induction l with
              | nil => rfl
              | cons k l ihl =>
                simp only [List.countP_cons, ihl]
                by_cases hk : k = i
                · subst hk
                  have x1 : (listed.setIfInBounds k true).getD k false = true := (hL' k).2 (.inr rfl)
                  have x2 : listed.getD k false = false := by
                    cases hh : listed.getD k false with
                    | false => rfl
                    | true => exact absurd hh hin
                  simp [x1, x2]; omega
                · rw [getD_set_ne false (Ne.symm hk)]
                  have : (k == i) = false := by simp [hk]
                  simp [this]; omega
            exact gen _
          have e2 : 0 < (List.range ops.size).countP (fun k => k == i) := List.countP_pos_iff.2 ⟨i, by simpa using hilt, by simp⟩
          omega
        omega
      · rw [← hu]
        exact hfr'.weak fun j hj => (hL' j).2 hj
  have none0 : ∀ k, ¬ Ls (Array.replicate ops.size false) k := fun k hl => by
    unfold Ls at hl
    rw [Array.getD_eq_getD_getElem?] at hl
    cases hh : (Array.replicate ops.size false)[k]? with
    | none => rw [hh] at hl; simp at hl
    | some b => rw [hh] at hl; simp [Array.getElem?_replicate] at hh; obtain ⟨_, rfl⟩ := hh; simp at hl
  refine main ops.size (Array.replicate ops.size false) fs.S G a _ ?_ (by simp) (fun i o ho hl => ?_) ?_ ?_
  · rw [← h1]
    refine ⟨Eq.symm ?_, fun e => Eq.symm ?_⟩
    · exact lastv_eq (W := fun k => WT (fp k)) (Nat.zero_le _) Tconst (fun k hk => by omega) (fun k _ _ h => none0 k h.1)
    · exact lastv_eq (W := fun k => WH (fp k) e) (Nat.zero_le _) (Hconst e) (fun k hk => by omega) (fun k _ _ h => none0 k h.1)
  · exfalso
    unfold Ls at hl
    rw [Array.getD_eq_getD_getElem?] at hl
    cases hh : (Array.replicate ops.size false)[i]? with
    | none => rw [hh] at hl; simp at hl
    | some b => rw [hh] at hl; simp [Array.getElem?_replicate] at hh; obtain ⟨_, rfl⟩ := hh; simp at hl
  · exact Nat.le_trans List.countP_le_length (by simp)
  · have none : ∀ k, ¬ Ls (Array.replicate ops.size false) k := fun k hl => by
      unfold Ls at hl
      rw [Array.getD_eq_getD_getElem?] at hl
      cases hh : (Array.replicate ops.size false)[k]? with
      | none => rw [hh] at hl; simp at hl
      | some b => rw [hh] at hl; simp [Array.getElem?_replicate] at hh; obtain ⟨_, rfl⟩ := hh; simp at hl
    have h0 : stateAt ops st fp (Ls (Array.replicate ops.size false)) fs.S = fs := by
      refine FS.ext2 (fun x => ?_) (fun d => ?_) ?_ rfl
      · rw [← h1]
        exact lastv_eq (W := fun k => (ops[k]?).bind (·.dst) = some x) (Nat.zero_le _) (tconst x) (fun k hk => by omega) (fun k _ _ h => none0 k h.1)
      · rw [← h1]
        exact lastv_eq (W := fun k => fp k = .wl d) (Nat.zero_le _) (bconst d) (fun k hk => by omega) (fun k _ _ h => none0 k h.1)
      · rw [← h1]; rfl
    rw [h0]
    exact (h.drew).weak fun j hj => hj.elim

/-! ### a panic in a region that draws its order -/
theorem panIn_spec {m : Nat} {ps : List (Nat × Nat)} (h : panIn m ps = true) : (m, m) ∈ ps := by
  induction ps with
  | nil => cases h
  | cons p ps ih =>
    obtain ⟨a, b⟩ := p
    simp only [panIn, Bool.or_eq_true, Bool.and_eq_true, beq_iff_eq] at h
    rcases h with ⟨rfl, rfl⟩ | h
    · exact List.mem_cons_self ..
    · exact List.mem_cons_of_mem _ (ih h)
theorem panOk_spec {ops : Array Oper} {ps : List (Nat × Nat)} {m : Nat} (h : drawOk ops ps = true) (hm : panIn m ps = true) :
    (∃ o, ops[m]? = some o ∧ ((∃ f args ts, o.op = .call ⟨.value f, args, ts⟩) ∨ (∃ x, o.op = .panic x) ∧ ∀ j, j < m → ((Region.before ops).getD m 0).testBit j = true)) ∧ ∀ j, m < j → j < ops.size → ((Region.before ops).getD j 0).testBit m = true := by
  unfold drawOk at h
  have h := (Bool.and_eq_true _ _ ▸ h).2
  have h1 := (List.all_eq_true.1 h) (m, m) (panIn_spec hm)
  simp only [beq_self_eq_true, Bool.not_true, Bool.false_or, panOk, Bool.and_eq_true] at h1
  obtain ⟨h2, h3⟩ := h1
  refine ⟨?_, fun j hj hlt => ?_⟩
  · split at h2
    · rename_i o ho
      split at h2
      · rename_i f args ts hop
        exact ⟨o, ho, .inl ⟨f, args, ts, hop⟩⟩
      · rename_i x hop
        exact ⟨o, ho, .inr ⟨⟨x, hop⟩, fun j hj => (List.all_eq_true.1 h2) j (List.mem_range.2 hj)⟩⟩
      · cases h2
    · cases h2
  · have := (List.all_eq_true.1 h3) j (by simpa using hlt)
    simpa [hj] using this
theorem lexF_tracePan {cx : Ctx} {call : Cal} {ops : Array Oper} {v : AV} {m : Nat} : ∀ (l : List Oper) (i : Nat) (fs : FS) (acc : List FP) (fs' : FS) (fps : List FP), lexF cx call ops i l fs acc = some (.pan v fs' m fps) →
    ∃ (st : Nat → FS) (fp : Nat → FP), st i = fs ∧ i ≤ m ∧ m < i + l.length ∧ fps = acc ++ (List.range' i (m - i)).map fp ∧ (∀ (k : Nat) o, i + k < m → l[k]? = some o → stepA cx call ops (i + k) o (st (i + k)) = some (.ok (st (i + k + 1)) (fp (i + k)))) ∧
      ∃ o, l[m - i]? = some o ∧ stepA cx call ops m o (st m) = some (.pan v fs')
  | [], i, fs, acc, fs', fps, h => by cases h
  | o :: l, i, fs, acc, fs', fps, h => by
    simp only [lexF] at h
    split at h
    · rename_i fs1 fp1 hs
      obtain ⟨st, fp, h1, h2, h3, h4, h5, o', h6, h7⟩ := lexF_tracePan l (i + 1) fs1 (acc ++ [fp1]) fs' fps h
      refine ⟨fun n => if n = i then fs else st n, fun n => if n = i then fp1 else fp n, by simp, by omega, by simp; omega, ?_, fun k o' hkm hk => ?_, o', ?_, ?_⟩
      · rw [h4, show m - i = (m - (i + 1)) + 1 by omega, List.range'_succ, List.map_cons, if_pos rfl, List.append_assoc]
        congr 1
        show fp1 :: _ = fp1 :: _
        congr 1
        refine List.map_congr_left fun n hn => ?_
        obtain ⟨m, _, rfl⟩ := List.mem_range'.1 hn
        rw [if_neg (by omega)]
      · cases k with
        | zero =>
          simp at hk
          subst hk
          simp only [Nat.add_zero, if_true, if_neg (show i + 1 ≠ i by omega), h1, hs]
        | succ k =>
          have := h5 k o' (by omega) (by simpa using hk)
          have e1 : i + (k + 1) ≠ i := by omega
          have e2 : i + (k + 1) + 1 ≠ i := by omega
          simp only [e1, e2, if_false]
          rw [show i + (k + 1) = i + 1 + k by omega]
          exact this
      · rw [show m - i = (m - (i + 1)) + 1 by omega]
        simpa using h6
      · simp only [if_neg (show m ≠ i by omega)]
        exact h7
    · rename_i v' fs1 hs
      cases h
      exact ⟨fun _ => fs, fun _ => .non, rfl, Nat.le_refl _, by simp, by simp, fun k o' hk => by omega, o, by simp, hs⟩
    · cases h

/-- the frame when just those of L have been done, of the first m -/
noncomputable def stateTo (m : Nat) (ops : Array Oper) (st : Nat → FS) (fp : Nat → FP) (L : Nat → Prop) (S : St) : FS where
  t x := lastv (fun k => L k ∧ (ops[k]?).bind (·.dst) = some x) (fun n => (st n).t x) m
  b d := lastv (fun k => L k ∧ fp k = .wl d) (fun n => (st n).b d) m
  c := (st 0).c
  S := S

theorem draw_pan {F : Fix} {nt : Nat} {call : Cal} {ops : Array Oper} {ps : List (Nat × Nat)} {fs fs' : FS} {v0 : AV} {m : Nat} {fps : List FP} {G : Gh} {a : Act} {w : World} (hm : F.cx.P.follows .mixedOrders = true)
    (hd : ∀ (i : Nat) o, ops[i]? = some o → ∀ d, o.dst = some d → d < nt) (hc : CalOK F.cx.P call F.cx.dep) (hok : drawOk ops ps = true) (h : FR F nt (fun _ => False) fs G a w)
    (hs : lexF F.cx call ops 0 ops.toList fs [] = some (.pan v0 fs' m fps)) (hcl : noClash (fps ++ [.wh]) ps = true) (hin0 : panIn m ps = true) {Q : Exit → Act → World → Prop}
    (hq : ∀ D G' a' w' v', FR F nt D (lostF fs') G' a' w' → VR G' v0 v' → Q (.panic [{ v := v', recovered := false }]) a' w') : wpAny F.cx.P .any ops Q ops.size (Array.replicate ops.size false) a { w with drawn := w.drawn + 1 } := by
  have hD := drawOk_spec hok
  obtain ⟨⟨om, hom, hkind⟩, hbeh⟩ := panOk_spec hok hin0
  obtain ⟨st, fp0, h1, _, h2, h3, h4, o', h5, h6⟩ := lexF_tracePan ops.toList 0 fs [] fs' fps hs
  simp only [Nat.zero_add, Array.length_toList, List.nil_append, Nat.sub_zero] at h2 h3 h4 h5
  have hom' : om = o' := by
    have : ops[m]? = some o' := by simpa using h5
    rw [hom] at this; cases this; rfl
  subst hom'
  generalize hfpd : (fun k => if k = m then FP.wh else fp0 k) = fp
  have hfm : fp m = .wh := by rw [← hfpd]; simp
  have hfk : ∀ k, k < m → fp k = fp0 k := fun k hk => by rw [← hfpd]; simp [show k ≠ m by omega]
  have hfp : ∀ k, k ≤ m → (fps ++ [FP.wh])[k]? = some (fp k) := fun k hk => by
    rcases Nat.eq_or_lt_of_le hk with e | e
    · subst e
      have : fps.length = k := by rw [h3]; simp
      rw [List.getElem?_append_right (by omega), this, hfm]; simp
    · have : fps.length = m := by rw [h3]; simp
      rw [List.getElem?_append_left (by omega), h3, List.getElem?_map, List.getElem?_range' e]
      simp [hfk k e]
  -- each step, as it stands in the text
  have step : ∀ (k : Nat) o, k < m → ops[k]? = some o → stepA F.cx call ops k o (st k) = some (.ok (st (k + 1)) (fp k)) := fun k o hk ho => by rw [hfk k hk]; exact h4 k o hk (by simpa using ho)
  have hself : ∀ (k : Nat) o, k < m → ops[k]? = some o → (∃ v, (st (k + 1)).t = putA (st k).t o.dst v) ∧ (st (k + 1)).c = (st k).c ∧ (∀ e, fp k ≠ .wl e → (st (k + 1)).b e = (st k).b e) ∧ SP (fp k) (st (k + 1)).S (st (k + 1)).S (st k).S ∧ (quietK o = true → fp k = .non) := fun k o hkm hk => by
    obtain ⟨v, e1, e2, e3, e4, e5, _⟩ := stepA_local (step k o hkm hk) rfl (fun _ _ => rfl) (fun _ _ => rfl) (fun _ => rfl) (fun _ _ => rfl)
    exact ⟨⟨v, e1⟩, e2, e3, e4, e5⟩
  have hquiet : ∀ (k : Nat) o, k ≤ m → ops[k]? = some o → quietK o = true → (k = m → ∃ f args ts, om.op = .call ⟨.value f, args, ts⟩) → fp k = .non := fun k o hk ho hq hcall => by
    rcases Nat.eq_or_lt_of_le hk with e | e
    · subst e
      rw [hom] at ho; cases ho
      obtain ⟨_, _, _, hopm⟩ := hcall rfl
      simp [quietK, hopm] at hq
    · exact (hself k o e ho).2.2.2.2 hq
  have hget : ∀ k, k < ops.size → ∃ o, ops[k]? = some o := fun k hk => ⟨ops[k], by simp [hk]⟩
  have hcc : ∀ k, k ≤ m → (st k).c = (st 0).c := by
    intro k
    induction k with
    | zero => intro _; rfl
    | succ k ih => intro hk; obtain ⟨o, ho⟩ := hget k (by omega); rw [(hself k o (by omega) ho).2.1, ih (by omega)]
  have tconst : ∀ x k, k < m → ¬ ((ops[k]?).bind (·.dst) = some x) → (st (k + 1)).t x = (st k).t x := fun x k hk hn => by
    obtain ⟨o, ho⟩ := hget k (by omega)
    obtain ⟨v, e⟩ := (hself k o hk ho).1
    rw [e]
    cases hdst : o.dst with
    | none => rfl
    | some d =>
      have : x ≠ d := fun hx => hn (by simp [ho, hdst, hx])
      simp [putA, upd, this]
  have bconst : ∀ d k, k < m → ¬ (fp k = .wl d) → (st (k + 1)).b d = (st k).b d := fun d k hk hn => by
    obtain ⟨o, ho⟩ := hget k (by omega); exact (hself k o hk ho).2.2.1 d hn
  have Tconst : ∀ k, k < m → ¬ (WT (fp k)) → (st (k + 1)).S.T = (st k).S.T := fun k hk hn => by
    obtain ⟨o, ho⟩ := hget k (by omega); exact (hself k o hk ho).2.2.2.1.t hn
  have Hconst : ∀ e k, k < m → ¬ (WH (fp k) e) → (st (k + 1)).S.H[e]? = (st k).S.H[e]? := fun e k hk hn => by
    obtain ⟨o, ho⟩ := hget k (by omega); exact (hself k o hk ho).2.2.2.1.h hn
  -- two that clash are in order
  have ordered : ∀ i j oi oj, j < i → i ≤ m → ops[i]? = some oi → ops[j]? = some oj → ((∃ d, oj.dst = some d ∧ (d ∈ oi.looksAt ops ∨ oi.dst = some d)) ∨ (∃ d, oi.dst = some d ∧ d ∈ oj.looksAt ops) ∨ FP.clash (fp j) (fp i) = true) →
      ((Region.before ops).getD i 0).testBit j = true := fun i j oi oj hji him hi hj hcase => by
    have hilt := (Array.getElem?_eq_some_iff.1 hi).1
    rcases Classical.em (i = m ∧ ¬ ∃ f args ts, om.op = .call ⟨.value f, args, ts⟩) with hpm | hpm
    · obtain ⟨rfl, hnc⟩ := hpm
      rcases hkind with hk | ⟨_, hk⟩
      · exact absurd hk hnc
      · exact hk j hji
    have hci : i = m → ∃ f args ts, om.op = .call ⟨.value f, args, ts⟩ := fun e => Classical.byContradiction fun hn => hpm ⟨e, hn⟩
    have hp := hD.pair i j hji hilt
    unfold pairOk at hp
    split at hp
    · assumption
    · rw [hi, hj] at hp
      simp only [Bool.and_eq_true, Bool.or_eq_true] at hp
      obtain ⟨⟨p1, p2⟩, p3⟩ := hp
      exfalso
      rcases hcase with ⟨d, c1, c2⟩ | ⟨d, c1, c2⟩ | c
      · have := looksAt_apart p1 c1
        rcases c2 with c2 | c2
        · exact this.1 c2
        · exact this.2 c2
      · exact (looksAt_apart p2 c1).1 c2
      · rcases p3 with (p3 | p3) | p3
        · rw [hquiet j oj (by omega) hj p3 (by omega)] at c
          cases hfi : fp i <;> rw [hfi] at c <;> simp [FP.clash] at c
        · rw [hquiet i oi him hi p3 hci] at c
          cases hfj : fp j <;> rw [hfj] at c <;> simp [FP.clash] at c
        · have e3 := noClash_spec hcl (List.contains_iff_mem.1 p3) (by omega) (hfp j (by omega)) (hfp i him)
          rw [c] at e3; cases e3
  have main : ∀ (fuel : Nat) (listed : Array Bool) (S : St) (G : Gh) (a : Act) (w : World), IsS st fp m (Ls listed) S → listed.size = ops.size → Closed ops (Ls listed) → ¬ Ls listed m →
      (List.range ops.size).countP (fun k => !listed.getD k false) ≤ fuel → FR F nt (Ls listed) (stateTo m ops st fp (Ls listed) S) G a w → wpAny F.cx.P .any ops Q fuel listed a w := by
    have fin : ∀ (listed : Array Bool), listed.size = ops.size → ¬ Ls listed m → Region.ready .any ops listed ≠ [] := by
      intro listed hsz hnm hr
      have all : ∀ k, k < ops.size → Ls listed k := by
        intro k
        induction k using Nat.strongRecOn with
        | _ k ih =>
          intro hk
          obtain ⟨o, ho⟩ := hget k hk
          by_cases hl : Ls listed k
          · exact hl
          · exfalso
            have : k ∈ Region.ready .any ops listed := mem_ready.2 ⟨by
              unfold Ls at hl
              rw [Array.getD_eq_getD_getElem?] at hl ⊢
              cases hh : listed[k]? with
              | none => rw [Array.getElem?_eq_none_iff] at hh; omega
              | some b => rw [hh] at hl; simpa using hl, o, ho, fun e he hb => ih e.on (hD.edge k o ho e he hb) (by have := hD.edge k o ho e he hb; omega)⟩
            rw [hr] at this; cases this
      exact hnm (all m (by omega))
    intro fuel
    induction fuel with
    | zero =>
      intro listed S G a w hS hsz hclo hnm hcount hfr
      exfalso
      have : 0 < (List.range ops.size).countP (fun k => !listed.getD k false) := List.countP_pos_iff.2 ⟨m, by simpa using h2, by
        unfold Ls at hnm
        cases hh : listed.getD m false with
        | false => rfl
        | true => exact absurd hh hnm⟩
      omega
    | succ fuel ih =>
      intro listed S G a w hS hsz hclo hnm hcount hfr
      refine ⟨fun hr => absurd hr (fin listed hsz hnm), fun i hi => ?_⟩
      obtain ⟨r1, o, r2, r3⟩ := mem_ready.1 hi
      have hilt := (Array.getElem?_eq_some_iff.1 r2).1
      have hin : ¬ Ls listed i := fun hl => by
        unfold Ls at hl
        rw [Array.getD_eq_getD_getElem?] at hl r1
        cases hh : listed[i]? with
        | none => rw [hh] at hl; simp at hl
        | some b => rw [hh] at hl r1; simp at hl r1; rw [hl] at r1; cases r1
      -- what stands ahead of i is listed; what i stands ahead of is not
      have before : ∀ j, j < i → ((Region.before ops).getD i 0).testBit j = true → Ls listed j := fun j hj hb => hclo.bit hD i i j (Nat.le_refl _) hilt hj hb fun o' ho' e he hb' => by
        rw [r2] at ho'; cases ho'; exact r3 e he hb'
      have him : i ≤ m := by
        rcases Nat.lt_or_ge m i with hlt | hge
        · exact absurd (before m hlt (hbeh i hlt hilt)) hnm
        · exact hge
      have behind : ∀ j, i < j → j < ops.size → ((Region.before ops).getD j 0).testBit i = true → ¬ Ls listed j := fun j hj hjl hb hl => hin (hclo.bit hD j j i (Nat.le_refl _) hjl hj hb fun o' ho' e he hb' => hclo j o' ho' hl e he hb')
      have tval : ∀ x, (x ∈ o.looksAt ops) → (stateTo m ops st fp (Ls listed) S).t x = (st i).t x := fun x hx =>
        lastv_eq (W := fun k => (ops[k]?).bind (·.dst) = some x) him (tconst x) (fun k hk hw => by
          obtain ⟨ok, hok⟩ := hget k (by omega)
          simp [hok] at hw
          exact ⟨before k hk (ordered i k o ok hk him r2 hok (.inl ⟨x, hw, .inl hx⟩)), by simp [hok, hw]⟩) (fun k k1 k2 ⟨hl, hw⟩ => by
          rcases Nat.eq_or_lt_of_le k1 with e | e
          · rw [← e] at hl; exact hin hl
          · obtain ⟨ok, hok⟩ := hget k (by omega)
            simp [hok] at hw
            exact behind k e (by omega) (ordered k i ok o e (by omega) hok r2 (.inr (.inl ⟨x, hw, hx⟩))) hl)
      have bval : ∀ d, (fp i = .rl d ∨ fp i = .wl d) → (stateTo m ops st fp (Ls listed) S).b d = (st i).b d := fun d hx =>
        lastv_eq (W := fun k => fp k = .wl d) him (bconst d) (fun k hk hw => by
          obtain ⟨ok, hok⟩ := hget k (by omega)
          exact ⟨before k hk (ordered i k o ok hk him r2 hok (.inr (.inr (by first | (rcases hx with e | e <;> simp [hw, e, FP.clash]; done) | exact (clash_RT hx hw).1 | exact (clash_RT hx hw).2 | exact (clash_RH hx hw).1 | exact (clash_RH hx hw).2 | exact (clash_OH hx hw).1 | exact (clash_OH hx hw).2 | exact (clash_TT hx hw).1 | exact (clash_TT hx hw).2 | exact (clash_HH hx hw).1 | exact (clash_HH hx hw).2)))), hw⟩) (fun k k1 k2 ⟨hl, hw⟩ => by
          rcases Nat.eq_or_lt_of_le k1 with e | e
          · rw [← e] at hl; exact hin hl
          · obtain ⟨ok, hok⟩ := hget k (by omega)
            exact behind k e (by omega) (ordered k i ok o e (by omega) hok r2 (.inr (.inr (by first | (rcases hx with e' | e' <;> simp [hw, e', FP.clash]; done) | exact (clash_RT hx hw).1 | exact (clash_RT hx hw).2 | exact (clash_RH hx hw).1 | exact (clash_RH hx hw).2 | exact (clash_OH hx hw).1 | exact (clash_OH hx hw).2 | exact (clash_TT hx hw).1 | exact (clash_TT hx hw).2 | exact (clash_HH hx hw).1 | exact (clash_HH hx hw).2)))) hl)
      have Sval : (RA (fp i)) → S = (st i).S := fun hx => St.ext2
        (hS.T.trans (lastv_eq (W := fun k => WT (fp k)) him Tconst (fun k hk hw => by
          obtain ⟨ok, hok⟩ := hget k (by omega)
          exact ⟨before k hk (ordered i k o ok hk him r2 hok (.inr (.inr (by first | (rcases hx with e | e <;> simp [hw, e, FP.clash]; done) | exact (clash_RT hx hw).1 | exact (clash_RT hx hw).2 | exact (clash_RH hx hw).1 | exact (clash_RH hx hw).2 | exact (clash_OH hx hw).1 | exact (clash_OH hx hw).2 | exact (clash_TT hx hw).1 | exact (clash_TT hx hw).2 | exact (clash_HH hx hw).1 | exact (clash_HH hx hw).2)))), hw⟩) (fun k k1 k2 ⟨hl, hw⟩ => by
          rcases Nat.eq_or_lt_of_le k1 with e' | e'
          · rw [← e'] at hl; exact hin hl
          · obtain ⟨ok, hok⟩ := hget k (by omega)
            exact behind k e' (by omega) (ordered k i ok o e' (by omega) hok r2 (.inr (.inr (by first | (rcases hx with e | e <;> simp [hw, e, FP.clash]; done) | exact (clash_RT hx hw).1 | exact (clash_RT hx hw).2 | exact (clash_RH hx hw).1 | exact (clash_RH hx hw).2 | exact (clash_OH hx hw).1 | exact (clash_OH hx hw).2 | exact (clash_TT hx hw).1 | exact (clash_TT hx hw).2 | exact (clash_HH hx hw).1 | exact (clash_HH hx hw).2)))) hl)))
        (fun e => (hS.H e).trans (lastv_eq (W := fun k => WH (fp k) e) him (Hconst e) (fun k hk hw => by
          obtain ⟨ok, hok⟩ := hget k (by omega)
          exact ⟨before k hk (ordered i k o ok hk him r2 hok (.inr (.inr (by first | (rcases hx with e2 | e2 <;> rcases hw with hw | hw <;> simp [hw, e2, FP.clash]; done) | exact (clash_RT hx hw).1 | exact (clash_RT hx hw).2 | exact (clash_RH hx hw).1 | exact (clash_RH hx hw).2 | exact (clash_OH hx hw).1 | exact (clash_OH hx hw).2 | exact (clash_TT hx hw).1 | exact (clash_TT hx hw).2 | exact (clash_HH hx hw).1 | exact (clash_HH hx hw).2)))), hw⟩) (fun k k1 k2 ⟨hl, hw⟩ => by
          rcases Nat.eq_or_lt_of_le k1 with e' | e'
          · rw [← e'] at hl; exact hin hl
          · obtain ⟨ok, hok⟩ := hget k (by omega)
            exact behind k e' (by omega) (ordered k i ok o e' (by omega) hok r2 (.inr (.inr (by first | (rcases hx with e2 | e2 <;> rcases hw with hw | hw <;> simp [hw, e2, FP.clash]; done) | exact (clash_RT hx hw).1 | exact (clash_RT hx hw).2 | exact (clash_RH hx hw).1 | exact (clash_RH hx hw).2 | exact (clash_OH hx hw).1 | exact (clash_OH hx hw).2 | exact (clash_TT hx hw).1 | exact (clash_TT hx hw).2 | exact (clash_HH hx hw).1 | exact (clash_HH hx hw).2)))) hl)))
      have Oval : ∀ e, (fp i = .ro e ∨ fp i = .wo e) → S.H[e]? = (st i).S.H[e]? := fun e hx => (hS.H e).trans
        (lastv_eq (W := fun k => WH (fp k) e) him (Hconst e) (fun k hk hw => by
          obtain ⟨ok, hok⟩ := hget k (by omega)
          exact ⟨before k hk (ordered i k o ok hk him r2 hok (.inr (.inr (by first | (rcases hx with e2 | e2 <;> rcases hw with hw | hw <;> simp [hw, e2, FP.clash]; done) | exact (clash_RT hx hw).1 | exact (clash_RT hx hw).2 | exact (clash_RH hx hw).1 | exact (clash_RH hx hw).2 | exact (clash_OH hx hw).1 | exact (clash_OH hx hw).2 | exact (clash_TT hx hw).1 | exact (clash_TT hx hw).2 | exact (clash_HH hx hw).1 | exact (clash_HH hx hw).2)))), hw⟩) (fun k k1 k2 ⟨hl, hw⟩ => by
          rcases Nat.eq_or_lt_of_le k1 with e' | e'
          · rw [← e'] at hl; exact hin hl
          · obtain ⟨ok, hok⟩ := hget k (by omega)
            exact behind k e' (by omega) (ordered k i ok o e' (by omega) hok r2 (.inr (.inr (by first | (rcases hx with e2 | e2 <;> rcases hw with hw | hw <;> simp [hw, e2, FP.clash]; done) | exact (clash_RT hx hw).1 | exact (clash_RT hx hw).2 | exact (clash_RH hx hw).1 | exact (clash_RH hx hw).2 | exact (clash_OH hx hw).1 | exact (clash_OH hx hw).2 | exact (clash_TT hx hw).1 | exact (clash_TT hx hw).2 | exact (clash_HH hx hw).1 | exact (clash_HH hx hw).2)))) hl))
      rcases Nat.eq_or_lt_of_le him with eim | hlt
      · subst eim
        rw [hom] at r2; cases r2
        have hops : ∀ x ∈ om.op.operands, rho (stateTo i ops st fp (Ls listed) S).t x = rho (st i).t x := fun x hx => by
          cases x with
          | tmp y =>
            refine tval y ?_
            unfold Oper.looksAt
            refine List.mem_append_left _ (List.mem_filterMap.2 ⟨.tmp y, by simpa using hx, rfl⟩)
          | _ => rfl
        have hw : wantedA om.guard ops (stateTo i ops st fp (Ls listed) S).t = wantedA om.guard ops (st i).t := by
          unfold wantedA
          cases hg : om.guard with
          | none => rfl
          | some p =>
            obtain ⟨j, want⟩ := p
            simp only
            cases hd : (ops[j]?).bind (·.dst) with
            | none => rfl
            | some d =>
              simp only
              rw [tval d (by unfold Oper.looksAt; refine List.mem_append_right _ ?_; rw [hg]; simp [hd])]
        have hSv : (stateTo i ops st fp (Ls listed) S).S = (st i).S := Sval (by rw [hfm]; trivial)
        have hpan : ∃ u', stepA F.cx call ops i om (stateTo i ops st fp (Ls listed) S) = some (.pan v0 u') ∧ u'.S = fs'.S ∧ u'.c = fs'.c := by
          unfold stepA at h6 ⊢
          rw [hw]
          split at h6
          · rename_i hwant
            rcases hkind with ⟨fm, argsm, tsm, hopm⟩ | ⟨⟨xm, hopm⟩, _⟩
            rotate_left
            · have e1 := hops xm (by simp [hopm, Op.operands])
              have heq : evOp F.cx call i om (stateTo i ops st fp (Ls listed) S) = (match rho (st i).t xm with
                  | .iface t v => some (.pan (.iface t v) (st i).S) | _ => none) := by
                simp only [evOp, hopm, e1, hSv]
                cases rho (st i).t xm <;> rfl
              have heq0 : evOp F.cx call i om (st i) = (match rho (st i).t xm with
                  | .iface t v => some (.pan (.iface t v) (st i).S) | _ => none) := by
                simp only [evOp, hopm]
                cases rho (st i).t xm <;> rfl
              rw [heq0] at h6
              rw [heq]
              generalize rho (st i).t xm = rr at h6 ⊢
              cases rr with
              | iface t v =>
                cases h6
                simp only [hwant]
                exact ⟨_, rfl, rfl, (hcc i (Nat.le_refl _)).symm⟩
              | _ => cases h6
            have hmk : ¬ (mkQ F.cx om.dst = true) := fun hq => by
              have hcalm : evOp F.cx call i om (st i) = evCalm call (st i) (rho (st i).t fm) (rhoL (st i).t argsm) := by simp only [evOp, hopm]; rw [if_pos hq]
              rw [hcalm] at h6
              split at h6
              · cases h6
              · rename_i v S hev
                obtain ⟨_, _, _, _, _, e, _⟩ := evCalm_val hev
                cases e
              · cases h6
            have heq : evOp F.cx call i om (stateTo i ops st fp (Ls listed) S) = evCallee call (stateTo i ops st fp (Ls listed) S) (rho (st i).t fm) (rhoL (st i).t argsm) := by
              have e1 := hops fm (by simp [hopm, Op.operands, Call.operands])
              have e2 : rhoL (stateTo i ops st fp (Ls listed) S).t argsm = rhoL (st i).t argsm := by
                unfold rhoL
                exact List.map_congr_left fun x hx => hops x (by simp only [hopm, Op.operands, Call.operands]; simp at hx ⊢; exact .inr hx)
              simp only [evOp, hopm, e1, e2]; rw [if_neg hmk]
            have heq0 : evOp F.cx call i om (st i) = evCallee call (st i) (rho (st i).t fm) (rhoL (st i).t argsm) := by simp only [evOp, hopm]; rw [if_neg hmk]
            rw [heq0] at h6
            rw [heq]
            have hce : evCallee call (stateTo i ops st fp (Ls listed) S) (rho (st i).t fm) (rhoL (st i).t argsm) = (match evCallee call (st i) (rho (st i).t fm) (rhoL (st i).t argsm) with
                | some (.val v _ S p) => some (.val v (stateTo i ops st fp (Ls listed) S).b S p) | r => r) := by
              unfold evCallee
              rw [hSv]
              split
              · rename_i g first cap hg
                generalize call g (first ++ (rhoL (st i).t argsm ++ cap)) (st i).S = rr
                match rr with
                | none => rfl
                | some (.ret _, _) => rfl
                | some (.pan _, _) => rfl
              · rfl
            rw [hce]
            split at h6
            · cases h6
            · rename_i v S hev
              cases h6
              rw [hev]
              simp only [hwant]
              exact ⟨_, rfl, rfl, (hcc i (Nat.le_refl _)).symm⟩
            · cases h6
          · cases h6
          · cases h6
        obtain ⟨u', u1, u2, u3⟩ := hpan
        have hstep := stepA_sound hom hfr hin (hd i om hom) hc u1
        refine hstep _ Q fun G' w' v' hfr' hv => hq (Ls listed) G' a w' v' ?_ hv
        exact ⟨⟨by show Inv _ _ _ fs'.S _; rw [← u2]; exact hfr'.pre.inv, hfr'.pre.ext, ⟨fun d hd0 => absurd rfl hd0, fun d e k hd0 => absurd rfl hd0⟩⟩, fun x => .junk _, hfr'.nt, hfr'.df, hfr'.nul, fun v hv => by
          have := hfr'.nud v hv
          show v ≤ fs'.c ∨ _
          rw [u3] at this
          exact this, hfr'.nue, hfr'.gm⟩
      obtain ⟨v, s1, s2, s3, s4, s5, u', u1, u2, u3, u4, u5, u6⟩ := stepA_local (u := stateTo m ops st fp (Ls listed) S) (step i o hlt r2) (hcc i (Nat.le_of_lt hlt)).symm tval bval Sval Oval
      have hL' : ∀ k, Ls (listed.setIfInBounds i true) k ↔ Ls listed k ∨ k = i := fun k => by
        by_cases hk : k = i
        · subst hk
          simp [Ls, hsz, hilt]
        · simp only [Ls, getD_set_ne false (Ne.symm hk), hk, or_false]
      have hS' : IsS st fp m (Ls (listed.setIfInBounds i true)) u'.S := by
        refine ⟨?_, fun e => ?_⟩
        · by_cases hx : WT (fp i)
          · rw [u6.1 hx]
            refine Eq.symm ?_
            exact lastv_eq (W := fun k => WT (fp k)) hlt Tconst (fun k hk hw => by
                refine ⟨(hL' k).2 ?_, hw⟩
                by_cases hki : k = i
                · exact .inr hki
                · obtain ⟨ok, hok⟩ := hget k (by omega)
                  exact .inl (before k (by omega) (ordered i k o ok (by omega) him r2 hok (.inr (.inr (by first | (simp [hw, hx, FP.clash]; done) | exact (clash_RT hx hw).1 | exact (clash_RT hx hw).2 | exact (clash_RH hx hw).1 | exact (clash_RH hx hw).2 | exact (clash_OH hx hw).1 | exact (clash_OH hx hw).2 | exact (clash_TT hx hw).1 | exact (clash_TT hx hw).2 | exact (clash_HH hx hw).1 | exact (clash_HH hx hw).2)))))) (fun k k1 k2 ⟨hl, hw⟩ => by
                rcases (hL' k).1 hl with hl | e
                · obtain ⟨ok, hok⟩ := hget k (by omega)
                  exact behind k (by omega) (by omega) (ordered k i ok o (by omega) (by omega) hok r2 (.inr (.inr (by first | (simp [hw, hx, FP.clash]; done) | exact (clash_RT hx hw).1 | exact (clash_RT hx hw).2 | exact (clash_RH hx hw).1 | exact (clash_RH hx hw).2 | exact (clash_OH hx hw).1 | exact (clash_OH hx hw).2 | exact (clash_TT hx hw).1 | exact (clash_TT hx hw).2 | exact (clash_HH hx hw).1 | exact (clash_HH hx hw).2)))) hl
                · omega)
          · rw [u6.t hx]
            refine hS.T.trans ?_
            exact lastv_congr fun k hk => by
              rw [hL']
              constructor
              · rintro ⟨h1, h2⟩; exact ⟨.inl h1, h2⟩
              · rintro ⟨h1 | h1, h2⟩
                · exact ⟨h1, h2⟩
                · subst h1; exact absurd h2 hx
        · by_cases hx : WH (fp i) e
          · rw [u6.h1 hx]
            refine Eq.symm ?_
            exact lastv_eq (W := fun k => WH (fp k) e) hlt (Hconst e) (fun k hk hw => by
                refine ⟨(hL' k).2 ?_, hw⟩
                by_cases hki : k = i
                · exact .inr hki
                · obtain ⟨ok, hok⟩ := hget k (by omega)
                  exact .inl (before k (by omega) (ordered i k o ok (by omega) him r2 hok (.inr (.inr (by first | (rcases hx with e2 | e2 <;> rcases hw with hw | hw <;> simp [hw, e2, FP.clash]; done) | exact (clash_RT hx hw).1 | exact (clash_RT hx hw).2 | exact (clash_RH hx hw).1 | exact (clash_RH hx hw).2 | exact (clash_OH hx hw).1 | exact (clash_OH hx hw).2 | exact (clash_TT hx hw).1 | exact (clash_TT hx hw).2 | exact (clash_HH hx hw).1 | exact (clash_HH hx hw).2)))))) (fun k k1 k2 ⟨hl, hw⟩ => by
                rcases (hL' k).1 hl with hl | e
                · obtain ⟨ok, hok⟩ := hget k (by omega)
                  exact behind k (by omega) (by omega) (ordered k i ok o (by omega) (by omega) hok r2 (.inr (.inr (by first | (rcases hx with e2 | e2 <;> rcases hw with hw | hw <;> simp [hw, e2, FP.clash]; done) | exact (clash_RT hx hw).1 | exact (clash_RT hx hw).2 | exact (clash_RH hx hw).1 | exact (clash_RH hx hw).2 | exact (clash_OH hx hw).1 | exact (clash_OH hx hw).2 | exact (clash_TT hx hw).1 | exact (clash_TT hx hw).2 | exact (clash_HH hx hw).1 | exact (clash_HH hx hw).2)))) hl
                · omega)
          · rw [u6.h hx]
            refine (hS.H e).trans ?_
            exact lastv_congr fun k hk => by
              rw [hL']
              constructor
              · rintro ⟨h1, h2⟩; exact ⟨.inl h1, h2⟩
              · rintro ⟨h1 | h1, h2⟩
                · exact ⟨h1, h2⟩
                · subst h1; exact absurd h2 hx
      have hu : u' = stateTo m ops st fp (Ls (listed.setIfInBounds i true)) u'.S := by
        have e1 : ∀ x, u'.t x = (stateTo m ops st fp (Ls (listed.setIfInBounds i true)) u'.S).t x := fun x => by
          rw [u2]
          by_cases hx : o.dst = some x
          · have : putA (stateTo m ops st fp (Ls listed) S).t o.dst v x = v := by simp [putA, hx, upd]
            rw [this]
            have e : (stateTo m ops st fp (Ls (listed.setIfInBounds i true)) u'.S).t x = (st (i + 1)).t x :=
              lastv_eq (W := fun k => (ops[k]?).bind (·.dst) = some x) hlt (tconst x) (fun k hk hw => by
                refine ⟨(hL' k).2 ?_, hw⟩
                by_cases hki : k = i
                · exact .inr hki
                · obtain ⟨ok, hok⟩ := hget k (by omega)
                  simp [hok] at hw
                  exact .inl (before k (by omega) (ordered i k o ok (by omega) him r2 hok (.inl ⟨x, hw, .inr hx⟩)))) (fun k k1 k2 ⟨hl, hw⟩ => by
                rcases (hL' k).1 hl with hl | e
                · obtain ⟨ok, hok⟩ := hget k (by omega)
                  simp [hok] at hw
                  exact behind k (by omega) (by omega) (ordered k i ok o (by omega) (by omega) hok r2 (.inl ⟨x, hx, .inr hw⟩)) hl
                · omega)
            rw [e, s1]
            simp [putA, hx, upd]
          · have : putA (stateTo m ops st fp (Ls listed) S).t o.dst v x = (stateTo m ops st fp (Ls listed) S).t x := by
              cases hdst : o.dst with
              | none => rfl
              | some d =>
                have : x ≠ d := fun h' => hx (by rw [hdst, h'])
                simp [putA, upd, this]
            rw [this]
            exact lastv_congr fun k hk => by
              rw [hL']
              constructor
              · rintro ⟨h1, h2⟩; exact ⟨.inl h1, h2⟩
              · rintro ⟨h1 | h1, h2⟩
                · exact ⟨h1, h2⟩
                · subst h1; simp [r2] at h2; exact absurd h2 hx
        have e2 : ∀ d, u'.b d = (stateTo m ops st fp (Ls (listed.setIfInBounds i true)) u'.S).b d := fun d => by
          by_cases hx : fp i = .wl d
          · rw [u4 d hx]
            have e : (stateTo m ops st fp (Ls (listed.setIfInBounds i true)) u'.S).b d = (st (i + 1)).b d := (lastv_eq (W := fun k => fp k = .wl d) hlt (bconst d) (fun k hk hw => by
                refine ⟨(hL' k).2 ?_, hw⟩
                by_cases hki : k = i
                · exact .inr hki
                · obtain ⟨ok, hok⟩ := hget k (by omega)
                  exact .inl (before k (by omega) (ordered i k o ok (by omega) him r2 hok (.inr (.inr (by first | (simp [hw, hx, FP.clash]; done) | exact (clash_RT hx hw).1 | exact (clash_RT hx hw).2 | exact (clash_RH hx hw).1 | exact (clash_RH hx hw).2 | exact (clash_OH hx hw).1 | exact (clash_OH hx hw).2 | exact (clash_TT hx hw).1 | exact (clash_TT hx hw).2 | exact (clash_HH hx hw).1 | exact (clash_HH hx hw).2)))))) (fun k k1 k2 ⟨hl, hw⟩ => by
                rcases (hL' k).1 hl with hl | e
                · obtain ⟨ok, hok⟩ := hget k (by omega)
                  exact behind k (by omega) (by omega) (ordered k i ok o (by omega) (by omega) hok r2 (.inr (.inr (by first | (simp [hw, hx, FP.clash]; done) | exact (clash_RT hx hw).1 | exact (clash_RT hx hw).2 | exact (clash_RH hx hw).1 | exact (clash_RH hx hw).2 | exact (clash_OH hx hw).1 | exact (clash_OH hx hw).2 | exact (clash_TT hx hw).1 | exact (clash_TT hx hw).2 | exact (clash_HH hx hw).1 | exact (clash_HH hx hw).2)))) hl
                · omega))
            exact e.symm
          · rw [u5 d hx]
            exact lastv_congr fun k hk => by
              rw [hL']
              constructor
              · rintro ⟨h1, h2⟩; exact ⟨.inl h1, h2⟩
              · rintro ⟨h1 | h1, h2⟩
                · exact ⟨h1, h2⟩
                · subst h1; exact absurd h2 hx
        have e3 : u'.S = (stateTo m ops st fp (Ls (listed.setIfInBounds i true)) u'.S).S := rfl
        have e4 : u'.c = (stateTo m ops st fp (Ls (listed.setIfInBounds i true)) u'.S).c := u3
        exact FS.ext2 e1 e2 e4 e3
      have hstep := stepA_sound r2 hfr hin (hd i o r2) hc u1
      refine hstep _ Q fun G' a' w' hfr' => ih (listed.setIfInBounds i true) u'.S G' a' w' hS' (by simp [hsz]) (fun j oj hj hl e he hb => ?_) (fun hl => ?_) ?_ ?_
      · rcases (hL' j).1 hl with hl | rfl
        · exact (hL' _).2 (.inl (hclo j oj hj hl e he hb))
        · rw [r2] at hj; cases hj; exact (hL' _).2 (.inl (r3 e he hb))
      · rcases (hL' m).1 hl with hl | e
        · exact hnm hl
        · omega
      · have : (List.range ops.size).countP (fun k => !(listed.setIfInBounds i true).getD k false) < (List.range ops.size).countP (fun k => !listed.getD k false) := by
          have e1 : (List.range ops.size).countP (fun k => !listed.getD k false) = (List.range ops.size).countP (fun k => !(listed.setIfInBounds i true).getD k false) + (List.range ops.size).countP (fun k => k == i) := by
            have gen : ∀ l : List Nat, l.countP (fun k => !listed.getD k false) = l.countP (fun k => !(listed.setIfInBounds i true).getD k false) + l.countP (fun k => k == i) := by
              intro l
              induction l with
              | nil => rfl
              | cons k l ihl =>
                simp only [List.countP_cons, ihl]
                by_cases hk : k = i
                · subst hk
                  have x1 : (listed.setIfInBounds k true).getD k false = true := (hL' k).2 (.inr rfl)
                  have x2 : listed.getD k false = false := by
                    cases hh : listed.getD k false with
                    | false => rfl
                    | true => exact absurd hh hin
                  simp [x1, x2]; omega
                · rw [getD_set_ne false (Ne.symm hk)]
                  have : (k == i) = false := by simp [hk]
                  simp [this]; omega
            exact gen _
          have e2 : 0 < (List.range ops.size).countP (fun k => k == i) := List.countP_pos_iff.2 ⟨i, by simpa using hilt, by simp⟩
          omega
        omega
      · rw [← hu]
        exact hfr'.weak fun j hj => (hL' j).2 hj
  have none : ∀ k, ¬ Ls (Array.replicate ops.size false) k := fun k hl => by
    unfold Ls at hl
    rw [Array.getD_eq_getD_getElem?] at hl
    cases hh : (Array.replicate ops.size false)[k]? with
    | none => rw [hh] at hl; simp at hl
    | some b => rw [hh] at hl; simp [Array.getElem?_replicate] at hh; obtain ⟨_, rfl⟩ := hh; simp at hl
  have none0 : ∀ k, ¬ Ls (Array.replicate ops.size false) k := fun k hl => by
    unfold Ls at hl
    rw [Array.getD_eq_getD_getElem?] at hl
    cases hh : (Array.replicate ops.size false)[k]? with
    | none => rw [hh] at hl; simp at hl
    | some b => rw [hh] at hl; simp [Array.getElem?_replicate] at hh; obtain ⟨_, rfl⟩ := hh; simp at hl
  refine main ops.size (Array.replicate ops.size false) fs.S G a _ ?_ (by simp) (fun i o ho hl => absurd hl (none i)) (none m) ?_ ?_
  · rw [← h1]
    refine ⟨Eq.symm ?_, fun e => Eq.symm ?_⟩
    · exact lastv_eq (W := fun k => WT (fp k)) (Nat.zero_le _) Tconst (fun k hk => by omega) (fun k _ _ h => none0 k h.1)
    · exact lastv_eq (W := fun k => WH (fp k) e) (Nat.zero_le _) (Hconst e) (fun k hk => by omega) (fun k _ _ h => none0 k h.1)
  · exact Nat.le_trans List.countP_le_length (by simp)
  · have h0 : stateTo m ops st fp (Ls (Array.replicate ops.size false)) fs.S = fs := by
      refine FS.ext2 (fun x => ?_) (fun d => ?_) ?_ rfl
      · rw [← h1]
        exact lastv_eq (W := fun k => (ops[k]?).bind (·.dst) = some x) (Nat.zero_le _) (tconst x) (fun k hk => by omega) (fun k _ _ h => none0 k h.1)
      · rw [← h1]
        exact lastv_eq (W := fun k => fp k = .wl d) (Nat.zero_le _) (bconst d) (fun k hk => by omega) (fun k _ _ h => none0 k h.1)
      · rw [← h1]; rfl
    rw [h0]
    exact (h.drew).weak fun j hj => hj.elim
end Go.Proofs.YtcpoinfdnimanaaGreatDoor.AE
/- What is handed back may be told in the caller's own words. No condition. -/
namespace Go.Proofs.YtcpoinfdnimanaaGreatDoor.AE
set_option linter.unusedVariables false
set_option linter.unusedSimpArgs false
open Go Go.RowKit

/-! ### strip, low, sealed -/
mutual
theorem sealed_strip (t0 : Nat) : ∀ a : AV, (a.strip t0).sealed = a.sealed
  | .junk => rfl | .undef => rfl | .bool _ => rfl | .int _ _ => rfl | .str _ => rfl | .nilp => rfl | .nilif => rfl | .loc .. => rfl | .ptr .. => rfl | .sl .. => rfl | .rp .. => rfl | .mp _ => rfl | .nilm => rfl
  | .agg cs => by simp only [AV.strip, AV.sealed]; exact sealedL_strip t0 cs
  | .tup cs => by simp only [AV.strip, AV.sealed]; exact sealedL_strip t0 cs
  | .ref cs => by simp only [AV.strip, AV.sealed]; exact sealedL_strip t0 cs
  | .slice es .non => by simp only [AV.strip, AV.sealed]; exact sealedL_strip t0 es
  | .slice es .clip => by simp only [AV.strip, AV.sealed]; exact sealedL_strip t0 es
  | .slice es (.knil _) => by simp only [AV.strip, AV.sealed]; exact sealedL_strip t0 es
  | .slice es (.own t p) => by
    simp only [AV.strip]
    split <;> (simp only [AV.sealed]; exact sealedL_strip t0 es)
  | .fn f a b => by simp only [AV.strip, AV.sealed, sealedL_strip t0 a, sealedL_strip t0 b]
  | .iface t v => by simp only [AV.strip, AV.sealed]; exact sealed_strip t0 v
theorem sealedL_strip (t0 : Nat) : ∀ l : List AV, AV.sealedL (AV.stripL t0 l) = AV.sealedL l
  | [] => rfl
  | a :: l => by simp only [AV.stripL, AV.sealedL, sealed_strip t0 a, sealedL_strip t0 l]
end
theorem stripL_map (t0 : Nat) (l : List AV) : AV.stripL t0 l = l.map (AV.strip t0) := by
  induction l with
  | nil => rfl
  | cons a l ih => simp [AV.stripL, ih]
theorem isCell_strip (t0 : Nat) (a : AV) : (a.strip t0).isCell = a.isCell := by
  cases a with
  | slice es tok => cases tok <;> simp only [AV.strip] <;> (try split) <;> rfl
  | _ => rfl
theorem cells_strip (t0 : Nat) (a : AV) : (a.strip t0).cells? = a.cells?.map (AV.stripL t0) := by
  cases a with
  | slice es tok => cases tok <;> simp only [AV.strip] <;> (try split) <;> simp [AV.cells?, AV.stripL, AV.strip, *]
  | agg cs =>
    have : (AV.stripL t0 cs).all AV.isCell = cs.all AV.isCell := by
      rw [stripL_map, List.all_map]
      congr 1
      funext x
      exact isCell_strip t0 x
    simp only [AV.strip, AV.cells?, this]
    split <;> rfl
  | _ => simp [AV.strip, AV.cells?, AV.stripL]
theorem flatQ_strip (t0 : Nat) (l : List AV) : flatQ (AV.stripL t0 l) = (flatQ l).map (AV.stripL t0) := by
  induction l with
  | nil => rfl
  | cons a l ih =>
    simp only [AV.stripL, flatQ, cells_strip, ih]
    cases a.cells? with
    | none => rfl
    | some cs =>
      cases flatQ l with
      | none => rfl
      | some fl => simp [stripL_map]
theorem sizesOk_strip (t0 n : Nat) (l : List AV) : sizesOk n (AV.stripL t0 l) = sizesOk n l := by
  induction l with
  | nil => rfl
  | cons a l ih =>
    simp only [AV.stripL, sizesOk, cells_strip, ih]
    cases a.cells? with
    | none => rfl
    | some cs => simp [stripL_map]

theorem VR.strip {G : Gh} (t0 : Nat) {a : AV} {v : Value} (r : VR G a v) : VR G (a.strip t0) v := by
  refine VR.rec (motive_1 := fun a v _ => VR G (a.strip t0) v) (motive_2 := fun l m _ => VRL G (AV.stripL t0 l) m) (motive_3 := fun l b o _ => VRI G (AV.stripL t0 l) b o)
    ?_ ?_ ?_ ?_ ?_ ?_ ?_ ?_ ?_ ?_ ?_ ?_ ?_ ?_ ?_ ?_ ?_ ?_ ?_ ?_ ?_ ?_ ?_ ?_ r
  · exact fun v => .junk v
  · exact .undef
  · exact fun b => .bool b
  · exact fun k n => .int k n
  · exact fun bs => .str bs
  · exact fun cs vs _ ih => .agg _ vs ih
  · exact fun cs vs _ ih => .tup _ vs ih
  · exact .nilp
  · exact fun cs b o _ ih => .ref _ b o ih
  · exact fun dep d ver off b hb => .loc dep d ver off b hb
  · exact fun id off b hb => .ptr id off b hb
  · exact fun f first cap fv cv _ _ ih1 ih2 => .fn f _ _ fv cv ih1 ih2
  · exact fun t a v _ ih => .iface t _ v ih
  · exact .nilif
  · intro tok ad ht hq
    cases tok with
    | non => exact .nils _ _ (by simp) (by simp)
    | clip => exact .nils _ _ (by simp) (by simp)
    | knil _ => exact .nils _ _ (by simp) (by simp)
    | own t p => exact absurd rfl (ht t p)
  · intro es tok fl b o cap sz h1 h2 _ h4 h5 ih
    have hl : es.length = (AV.stripL t0 es).length := by simp [stripL_map]
    have hf : flatQ (AV.stripL t0 es) = some (AV.stripL t0 fl) := by rw [flatQ_strip, h2]; rfl
    have hs : sizesOk sz (AV.stripL t0 es) = true := by rw [sizesOk_strip]; exact h5
    cases tok with
    | non => simp only [AV.strip]; rw [hl]; exact .slice _ _ _ b o cap sz (by omega) hf ih trivial hs
    | knil _ => simp only [AV.strip]; rw [hl]; exact .slice _ _ _ b o cap sz (by omega) hf ih trivial hs
    | clip => simp only [AV.strip]; rw [hl]; exact .slice _ _ _ b o cap sz (by omega) hf ih (by simp only [TokR] at h4 ⊢; omega) hs
    | own t p =>
      simp only [AV.strip]
      split
      · rw [hl]
        refine .slice _ _ _ b o cap sz (by omega) hf ih ?_ hs
        obtain ⟨n, sz', k1, k2, k3, k4, k5, k6⟩ := h4
        have hfl : (AV.stripL t0 fl).length = fl.length := by simp [stripL_map]
        exact ⟨n, sz', by intro e; apply k1; have := congrArg List.length e; simp [stripL_map] at this; exact this, k2, k3, k4, by rw [hfl, ← hl]; exact k5, fun e => by rw [hfl]; exact k6 e⟩
      · rw [hl]; exact .slice _ _ _ b o cap sz (by omega) hf ih trivial hs
  · exact fun id ver off len lim sz b m cap h1 h2 h3 h4 => .sl _ _ _ _ _ _ _ _ _ h1 h2 h3 h4
  · exact fun id ver off b m h1 => .rp _ _ _ _ _ h1
  · exact fun id b h1 => .mp _ _ h1
  · exact .nilm
  · exact .nil
  · exact fun a v l m _ _ ih1 ih2 => .cons _ v _ m ih1 ih2
  · exact fun b o => .nil b o
  · exact fun a v l b o hI _ _ ih1 ih2 => .cons _ v _ b o hI ih1 ih2

theorem lowL_mem {h0 t0 : Nat} {l : List AV} : AV.lowL h0 t0 l = true ↔ ∀ x ∈ l, x.low h0 t0 = true := by
  induction l with
  | nil => simp [AV.lowL]
  | cons a l ih => simp [AV.lowL, ih]
theorem lowL_flat {h0 t0 : Nat} {es fl : List AV} (h : flatQ es = some fl) : AV.lowL h0 t0 es = AV.lowL h0 t0 fl := by
  have app : ∀ a b : List AV, AV.lowL h0 t0 (a ++ b) = (AV.lowL h0 t0 a && AV.lowL h0 t0 b) := fun a b => by
    induction a with
    | nil => simp [AV.lowL]
    | cons x a ih => simp [AV.lowL, ih, Bool.and_assoc]
  induction es generalizing fl with
  | nil => simp [flatQ] at h; subst h; rfl
  | cons e es ih =>
    simp only [flatQ] at h
    split at h
    · rename_i cs l hc hl
      cases h
      rw [app, AV.lowL, ih hl]
      congr 1
      cases e <;> simp only [AV.cells?] at hc <;> first | (cases hc; simp [AV.lowL]) | (split at hc <;> simp_all [AV.low]) | cases hc
    · cases h
theorem sealedL_flat {es fl : List AV} (h : flatQ es = some fl) : AV.sealedL es = AV.sealedL fl := by
  have app : ∀ a b : List AV, AV.sealedL (a ++ b) = (AV.sealedL a && AV.sealedL b) := fun a b => by
    induction a with
    | nil => simp [AV.sealedL]
    | cons x a ih => simp [AV.sealedL, ih, Bool.and_assoc]
  induction es generalizing fl with
  | nil => simp [flatQ] at h; subst h; rfl
  | cons e es ih =>
    simp only [flatQ] at h
    split at h
    · rename_i cs l hc hl
      cases h
      rw [app, AV.sealedL, ih hl]
      congr 1
      cases e <;> simp only [AV.cells?] at hc <;> first | (cases hc; simp [AV.sealedL]) | (split at hc <;> simp_all [AV.sealed]) | cases hc
    · cases h

theorem VR.low {G : Gh} {h0 t0 : Nat} (hp : (∀ i b, G.phi i = some b → i < h0) ∧ ∀ i v x, G.rv i v = some x → i < h0) (hf : ∀ t n, G.fr t = some n → t < t0) {a : AV} {v : Value} (r : VR G a v) : a.low h0 t0 = true := by
  refine VR.rec (motive_1 := fun a v _ => a.low h0 t0 = true) (motive_2 := fun l m _ => AV.lowL h0 t0 l = true) (motive_3 := fun l b o _ => AV.lowL h0 t0 l = true)
    ?_ ?_ ?_ ?_ ?_ ?_ ?_ ?_ ?_ ?_ ?_ ?_ ?_ ?_ ?_ ?_ ?_ ?_ ?_ ?_ ?_ ?_ ?_ ?_ r
  · exact fun v => rfl
  · exact rfl
  · exact fun b => rfl
  · exact fun k n => rfl
  · exact fun bs => rfl
  · exact fun cs vs _ ih => ih
  · exact fun cs vs _ ih => ih
  · exact rfl
  · exact fun cs b o _ ih => ih
  · exact fun dep d ver off b hb => rfl
  · exact fun id off b hb => by simp [AV.low, hp.1 id b hb]
  · exact fun f first cap fv cv _ _ ih1 ih2 => by simp [AV.low, ih1, ih2]
  · exact fun t a v _ ih => ih
  · exact rfl
  · intro tok ad ht hq
    cases tok with
    | non => rfl
    | clip => rfl
    | knil _ => rfl
    | own t p => exact absurd rfl (ht t p)
  · intro es tok fl b o cap sz h1 h2 _ h4 h5 ih
    rw [← lowL_flat h2] at ih
    cases tok with
    | non => exact ih
    | clip => exact ih
    | knil _ => exact ih
    | own t p =>
      obtain ⟨n, sz', k1, k2, k3, _⟩ := h4
      simp [AV.low, ih, hf t n k3]
  · exact fun id ver off len lim sz b m cap h1 h2 h3 h4 => by simp [AV.low, hp.2 id ver _ h1]
  · exact fun id ver off b m h1 => by simp [AV.low, hp.2 id ver _ h1]
  · exact fun id b h1 => by simp [AV.low, hp.1 id b h1]
  · exact rfl
  · exact rfl
  · exact fun a v l m _ _ ih1 ih2 => by simp [AV.lowL, ih1, ih2]
  · exact fun b o => rfl
  · exact fun a v l b o hI _ _ ih1 ih2 => by simp [AV.lowL, ih1, ih2]
theorem VRL.low {G : Gh} {h0 t0 : Nat} (hp : (∀ i b, G.phi i = some b → i < h0) ∧ ∀ i v x, G.rv i v = some x → i < h0) (hf : ∀ t n, G.fr t = some n → t < t0) {l : List AV} {m : List Value} (r : VRL G l m) : AV.lowL h0 t0 l = true := by
  induction l generalizing m with
  | nil => rfl
  | cons a l ih => cases r with | cons _ v _ m ha hl => simp [AV.lowL, ha.low hp hf, ih hl]

/-- the same ghost below h0, t0 -/
structure Cut (G G' : Gh) (h0 t0 : Nat) : Prop where
  I : G'.I = G.I
  phi : ∀ i, i < h0 → G'.phi i = G.phi i
  tau : ∀ t, t < t0 → G'.tau t = G.tau t
  fr : ∀ t, t < t0 → G'.fr t = G.fr t
  rv : ∀ i v, i < h0 → G'.rv i v = G.rv i v
theorem VR.cut {G G' : Gh} {h0 t0 : Nat} (hc : Cut G G' h0 t0) {a : AV} {v : Value} (r : VR G a v) : a.sealed = true → a.low h0 t0 = true → VR G' a v := by
  refine VR.rec (motive_1 := fun a v _ => a.sealed = true → a.low h0 t0 = true → VR G' a v) (motive_2 := fun l m _ => AV.sealedL l = true → AV.lowL h0 t0 l = true → VRL G' l m)
    (motive_3 := fun l b o _ => AV.sealedL l = true → AV.lowL h0 t0 l = true → VRI G' l b o)
    ?_ ?_ ?_ ?_ ?_ ?_ ?_ ?_ ?_ ?_ ?_ ?_ ?_ ?_ ?_ ?_ ?_ ?_ ?_ ?_ ?_ ?_ ?_ ?_ r
  · exact fun v _ _ => .junk v
  · exact fun _ _ => .undef
  · exact fun b _ _ => .bool b
  · exact fun k n _ _ => .int k n
  · exact fun bs _ _ => .str bs
  · exact fun cs vs _ ih h1 h2 => .agg _ vs (ih h1 h2)
  · exact fun cs vs _ ih h1 h2 => .tup _ vs (ih h1 h2)
  · exact fun _ _ => .nilp
  · exact fun cs b o _ ih h1 h2 => .ref _ b o (ih h1 h2)
  · exact fun dep d ver off b hb h1 _ => by simp [AV.sealed] at h1
  · exact fun id off b hb _ h2 => .ptr id off b (by rw [hc.phi id (by simpa [AV.low] using h2)]; exact hb)
  · exact fun f first cap fv cv _ _ ih1 ih2 h1 h2 => by
      simp only [AV.sealed, AV.low, Bool.and_eq_true] at h1 h2
      exact .fn f _ _ fv cv (ih1 h1.1 h2.1) (ih2 h1.2 h2.2)
  · exact fun t a v _ ih h1 h2 => .iface t _ v (ih h1 h2)
  · exact fun _ _ => .nilif
  · exact fun tok ad ht hq _ _ => .nils tok ad ht hq
  · intro es tok fl b o cap sz h1 h2 _ h4 h5 ih s1 s2
    have s1' : AV.sealedL fl = true := by rw [← sealedL_flat h2]; exact s1
    have s2' : AV.lowL h0 t0 es = true := by
      cases tok with
      | non => exact s2
      | clip => exact s2
      | knil _ => exact s2
      | own t p => simp only [AV.low, Bool.and_eq_true] at s2; exact s2.2
    refine .slice es tok fl b o cap sz h1 h2 (ih s1' (by rw [← lowL_flat h2]; exact s2')) ?_ h5
    cases tok with
    | non => trivial
    | clip => exact h4
    | knil _ => exact h4
    | own t p =>
      have ht : t < t0 := by simp only [AV.low, Bool.and_eq_true, decide_eq_true_eq] at s2; exact s2.1
      obtain ⟨n, sz', k1, k2, k3, k4, k5, k6⟩ := h4
      exact ⟨n, sz', k1, k2, by rw [hc.fr t ht]; exact k3, k4, k5, fun e => by rw [hc.tau t ht]; exact k6 e⟩
  · exact fun id ver off len lim sz b m cap h1 h2 h3 h4 _ s2 => .sl _ _ _ _ _ _ _ _ _ (by rw [hc.rv id ver (by simpa [AV.low] using s2)]; exact h1) h2 h3 h4
  · exact fun id ver off b m h1 _ s2 => .rp _ _ _ _ _ (by rw [hc.rv id ver (by simpa [AV.low] using s2)]; exact h1)
  · exact fun id b h1 _ s2 => .mp _ _ (by rw [hc.phi id (by simpa [AV.low] using s2)]; exact h1)
  · exact fun _ _ => .nilm
  · exact fun _ _ => .nil
  · exact fun a v l m _ _ ih1 ih2 h1 h2 => by
      simp only [AV.sealedL, AV.lowL, Bool.and_eq_true] at h1 h2
      exact .cons _ v _ m (ih1 h1.1 h2.1) (ih2 h1.2 h2.2)
  · exact fun b o _ _ => .nil b o
  · exact fun a v l b o hI _ _ ih1 ih2 h1 h2 => by
      simp only [AV.sealedL, AV.lowL, Bool.and_eq_true] at h1 h2
      exact .cons _ v _ b o (by rw [hc.I]; exact hI) (ih1 h1.1 h2.1) (ih2 h1.2 h2.2)
theorem VRL.cut {G G' : Gh} {h0 t0 : Nat} (hc : Cut G G' h0 t0) {l : List AV} {m : List Value} (r : VRL G l m) (h1 : AV.sealedL l = true) (h2 : AV.lowL h0 t0 l = true) : VRL G' l m := by
  induction l generalizing m with
  | nil => cases r; exact .nil
  | cons a l ih =>
    simp only [AV.sealedL, AV.lowL, Bool.and_eq_true] at h1 h2
    cases r with | cons _ v _ m ha hl => exact .cons _ _ _ _ (ha.cut hc h1.1 h2.1) (ih hl h1.2 h2.2)

/-! ### equality of boxes -/
end Go.Proofs.YtcpoinfdnimanaaGreatDoor.AE
/- A region that draws its order, its operations named anew. Condition of the check 'permOk': the new order is one of all operations. -/
namespace Go.Proofs.YtcpoinfdnimanaaGreatDoor.AE
set_option linter.unusedVariables false
set_option linter.unusedSimpArgs false
open Go

def permOk (ops : Array Oper) (l : List Nat) : Bool :=
  decide (l.length = ops.size) && ((List.range ops.size).all fun k => decide (l.idxOf k < ops.size) && decide (l[l.idxOf k]? = some k)) &&
  ((List.range ops.size).all fun j => match l[j]? with
    | some k => decide (k < ops.size) && decide (l.idxOf k = j) | none => false) &&
  ops.all fun o => o.after.all (fun e => decide (e.on < ops.size)) && (match o.guard with | some p => decide (p.1 < ops.size) | none => true)

structure Perm (ops : Array Oper) (l : List Nat) : Prop where
  len : l.length = ops.size
  back : ∀ k, k < ops.size → l.idxOf k < ops.size ∧ l[l.idxOf k]? = some k
  on : ∀ j, j < ops.size → ∃ k, l[j]? = some k ∧ k < ops.size ∧ l.idxOf k = j
  edge : ∀ (k : Nat) o, ops[k]? = some o → ∀ e ∈ o.after, e.on < ops.size
  guard : ∀ (k : Nat) o, ops[k]? = some o → ∀ p, o.guard = some p → p.1 < ops.size
theorem permOk_spec {ops : Array Oper} {l : List Nat} (h : permOk ops l = true) : Perm ops l := by
  unfold permOk at h
  simp only [Bool.and_eq_true, decide_eq_true_eq] at h
  obtain ⟨⟨⟨h1, h2⟩, h3⟩, h4⟩ := h
  refine ⟨h1, fun k hk => ?_, fun j hj => ?_, fun k o ho e he => ?_, fun k o ho p hp => ?_⟩
  · have := (List.all_eq_true.1 h2) k (List.mem_range.2 hk)
    simpa using this
  · have := (List.all_eq_true.1 h3) j (List.mem_range.2 hj)
    split at this
    · rename_i k hk
      exact ⟨k, hk, by simpa using this⟩
    · cases this
  · have := (Array.all_eq_true'.1 h4) o (Array.mem_of_getElem? ho)
    simp only [Bool.and_eq_true] at this
    simpa using (Array.all_eq_true'.1 this.1) e he
  · have := (Array.all_eq_true'.1 h4) o (Array.mem_of_getElem? ho)
    simp only [Bool.and_eq_true] at this
    have h5 := this.2
    rw [hp] at h5
    simpa using h5

theorem permOps_get {ops : Array Oper} {l : List Nat} (hp : Perm ops l) {k : Nat} {o : Oper} (ho : ops[k]? = some o) : (permOps l ops)[l.idxOf k]? = some (renO (fun i => l.idxOf i) o) := by
  have hk : k < ops.size := (Array.getElem?_eq_some_iff.1 ho).1
  unfold permOps
  simp only [List.getElem?_toArray, List.getElem?_map, (hp.back k hk).2, Option.map_some]
  rw [Array.getD_eq_getD_getElem?, ho]
  rfl
theorem permOps_size {ops : Array Oper} {l : List Nat} (hp : Perm ops l) : (permOps l ops).size = ops.size := by
  simp [permOps, hp.len]

theorem wpAny_perm {P : Program} {Q : Exit → Act → World → Prop} {ops : Array Oper} {l : List Nat} (hp : Perm ops l) : ∀ (fuel : Nat) (listed listed' : Array Bool) (a : Act) (w : World),
    listed.size = ops.size → listed'.size = ops.size → (∀ k, k < ops.size → listed.getD k false = listed'.getD (l.idxOf k) false) → wpAny P .any (permOps l ops) Q fuel listed' a w → wpAny P .any ops Q fuel listed a w := by
  have gd : ∀ (x : Array Bool) (k : Nat) (b c : Bool), k < x.size → x.getD k b = x.getD k c := fun x k b c h => by
    rw [Array.getD_eq_getD_getElem?, Array.getD_eq_getD_getElem?]
    simp [h]
  have hready : ∀ (listed listed' : Array Bool), listed.size = ops.size → listed'.size = ops.size → (∀ k, k < ops.size → listed.getD k false = listed'.getD (l.idxOf k) false) →
      ∀ k, k ∈ Region.ready .any ops listed → l.idxOf k ∈ Region.ready .any (permOps l ops) listed' := fun listed listed' h1 h2 h3 k hk => by
    obtain ⟨r1, o, r2, r3⟩ := mem_ready.1 hk
    have hklt := (Array.getElem?_eq_some_iff.1 r2).1
    have hb := hp.back k hklt
    refine mem_ready.2 ⟨?_, _, permOps_get hp r2, fun e he hbd => ?_⟩
    · rw [gd _ _ true false (by omega), ← h3 k hklt, gd _ _ false true (by omega)]; exact r1
    · simp only [renO, Array.mem_map] at he
      obtain ⟨e0, he0, rfl⟩ := he
      have := r3 e0 he0 hbd
      simp only
      rw [← h3 _ (hp.edge k o r2 e0 he0)]
      exact this
  have hready' : ∀ (listed listed' : Array Bool), listed.size = ops.size → listed'.size = ops.size → (∀ k, k < ops.size → listed.getD k false = listed'.getD (l.idxOf k) false) →
      ∀ j, j ∈ Region.ready .any (permOps l ops) listed' → ∃ k, k ∈ Region.ready .any ops listed := fun listed listed' h1 h2 h3 j hj => by
    obtain ⟨r1, o', r2, r3⟩ := mem_ready.1 hj
    have hjlt := (Array.getElem?_eq_some_iff.1 r2).1
    rw [permOps_size hp] at hjlt
    obtain ⟨k, k1, k2, k3⟩ := hp.on j hjlt
    obtain ⟨o, ho⟩ : ∃ o, ops[k]? = some o := ⟨ops[k], by simp [k2]⟩
    have e := permOps_get hp ho
    rw [k3, r2] at e
    cases e
    refine ⟨k, mem_ready.2 ⟨?_, o, ho, fun e he hbd => ?_⟩⟩
    · rw [gd _ _ true false (by omega), h3 k k2, k3, gd _ _ false true (by omega)]; exact r1
    · have := r3 { e with on := l.idxOf e.on } (by simp only [renO, Array.mem_map]; exact ⟨e, he, rfl⟩) hbd
      rw [h3 _ (hp.edge k o ho e he)]
      exact this
  have hnil : ∀ (listed listed' : Array Bool), listed.size = ops.size → listed'.size = ops.size → (∀ k, k < ops.size → listed.getD k false = listed'.getD (l.idxOf k) false) →
      Region.ready .any ops listed = [] → Region.ready .any (permOps l ops) listed' = [] := fun listed listed' h1 h2 h3 hn => by
    apply List.eq_nil_iff_forall_not_mem.2
    intro j hj
    obtain ⟨k, hk⟩ := hready' listed listed' h1 h2 h3 j hj
    rw [hn] at hk; cases hk
  have hnil' : ∀ (listed listed' : Array Bool), listed.size = ops.size → listed'.size = ops.size → (∀ k, k < ops.size → listed.getD k false = listed'.getD (l.idxOf k) false) →
      Region.ready .any (permOps l ops) listed' = [] → Region.ready .any ops listed = [] := fun listed listed' h1 h2 h3 hn => by
    apply List.eq_nil_iff_forall_not_mem.2
    intro k hk
    have := hready listed listed' h1 h2 h3 k hk
    rw [hn] at this; cases this
  intro fuel
  induction fuel with
  | zero =>
    intro listed listed' a w h1 h2 h3 h
    exact ⟨hnil' listed listed' h1 h2 h3 h.1, h.2⟩
  | succ fuel ih =>
    intro listed listed' a w h1 h2 h3 h
    refine ⟨fun hn => h.1 (hnil listed listed' h1 h2 h3 hn), fun k hk => ?_⟩
    have hk' := hready listed listed' h1 h2 h3 k hk
    have hstep := h.2 _ hk'
    obtain ⟨_, o, r2, _⟩ := mem_ready.1 hk
    have hklt := (Array.getElem?_eq_some_iff.1 r2).1
    have hb := hp.back k hklt
    have hK : ∀ a w, wpAny P .any (permOps l ops) Q fuel (listed'.setIfInBounds (l.idxOf k) true) a w → wpAny P .any ops Q fuel (listed.setIfInBounds k true) a w := fun a w hh =>
      ih _ _ a w (by simp [h1]) (by simp [h2]) (fun j hj => by
        by_cases hjk : j = k
        · subst hjk
          rw [Array.getD_eq_getD_getElem?, Array.getD_eq_getD_getElem?]
          simp [h1, h2, hj, hb.1]
        · have hne : l.idxOf k ≠ l.idxOf j := fun e => hjk (by
            have x1 := (hp.back j hj).2
            rw [← e, hb.2] at x1
            exact (Option.some.inj x1).symm)
          rw [getD_set_ne false (Ne.symm hjk), getD_set_ne false hne]
          exact h3 j hj) hh
    refine wpOp_mono hK ?_
    unfold wpOp at hstep ⊢
    rw [permOps_get hp r2] at hstep
    rw [r2]
    simp only at hstep ⊢
    have hw : Region.wanted (renO (fun i => l.idxOf i) o) (yielded (permOps l ops) a.tmps) = Region.wanted o (yielded ops a.tmps) := by
      unfold Region.wanted renO
      cases hg : o.guard with
      | none => rfl
      | some p =>
        obtain ⟨j, want⟩ := p
        have hj := hp.guard k o r2 _ hg
        obtain ⟨oj, hoj⟩ : ∃ oj, ops[j]? = some oj := ⟨ops[j], by simp [hj]⟩
        simp only [Option.map_some]
        unfold yielded
        rw [permOps_get hp hoj, hoj]
        rfl
    rw [hw] at hstep
    exact hstep

theorem wp_region_perm {P : Program} {Q : Exit → Act → World → Prop} {ops : Array Oper} {l : List Nat} {id : Nat} {a : Act} {w : World} (hm : P.follows .mixedOrders = true) (hp : Perm ops l)
    (h : wpAny P .any (permOps l ops) Q (permOps l ops).size (Array.replicate (permOps l ops).size false) a { w with drawn := w.drawn + 1 }) : (Code.region id ops true).wp P Q a w := by
  refine wp_region_any hm ?_
  rw [permOps_size hp] at h
  exact wpAny_perm hp _ _ _ _ _ (by simp) (by simp) (fun k hk => by
    rw [Array.getD_eq_getD_getElem?, Array.getD_eq_getD_getElem?]
    simp [hk, (hp.back k hk).1]) h
end Go.Proofs.YtcpoinfdnimanaaGreatDoor.AE
/- THE EVALUATOR IS SOUND: what it gives for a call is what the model gives. Condition: the checks 'codeOk' of the functions that it follows. -/
namespace Go.Proofs.YtcpoinfdnimanaaGreatDoor.AE
set_option linter.unusedVariables false
set_option linter.unusedSimpArgs false
open Go Go.RowKit

def codeOk (nt : Nat) (ps : Nat → List (Nat × Nat)) : Code → Bool
  | .region id ops d => (ops.all fun o => match o.dst with | some d => decide (d < nt) | none => true) && (!d || match permOf (ps id) with
    | none => drawOk ops (ps id)
    | some i => permOk ops (permL ops i) && drawOk (permOps (permL ops i) ops) (permPs (permL ops i) i (ps id)))
  | .seq x y => codeOk nt ps x && codeOk nt ps y
  | .cond _ x y => codeOk nt ps x && codeOk nt ps y
  | .block _ c => codeOk nt ps c
  | .loop c => codeOk nt ps c
  | _ => true

def CodeP (F : Fix) (nt : Nat) (r : Out × FS) (Q : Exit → Act → World → Prop) : Prop :=
  match r.1 with
  | .norm => ∀ G a w, FR F nt (fun _ => False) r.2 G a w → Q .normal a w
  | .exit id => ∀ G a w, FR F nt (fun _ => False) r.2 G a w → Q (.exit id) a w
  | .ret => ∀ G a w, FR F nt (fun _ => False) r.2 G a w → Q .ret a w
  | .pan v => ∀ D G a w v', FR F nt D r.2 G a w → VR G v v' → Q (.panic [{ v := v', recovered := false }]) a w

theorem FR.region {F : Fix} {nt : Nat} {fs : FS} {G : Gh} {a : Act} {w : World} {n : Nat} (h : FR F nt (fun j => j < n) fs G a w) : FR F nt (fun _ => False) ⟨fs.t, fs.b, fs.c + n, fs.S⟩ G a w :=
  ⟨⟨h.pre.inv, h.pre.ext, h.pre.loc⟩, h.tm, h.nt, h.df, h.nul, fun v hv => (h.nud v hv).elim (fun h => .inl (by show v ≤ fs.c + n; omega)) (fun ⟨j, h1, h2⟩ => .inl (by show v ≤ fs.c + n; omega)), h.nue, h.gm⟩

theorem evCode_sound {F : Fix} {nt : Nat} {call : Cal} {ps : Nat → List (Nat × Nat)} {L : Nat} (hm : F.cx.P.follows .mixedOrders = true) (hc : CalOK F.cx.P call F.cx.dep) :
    ∀ (c : Code), codeOk nt ps c = true → ∀ (fs : FS) (r : Out × FS), evCode F.cx call ps L c fs = some r → ∀ (G : Gh) (a : Act) (w : World), FR F nt (fun _ => False) fs G a w → ∀ Q, CodeP F nt r Q → c.wp F.cx.P Q a w := by
  intro c
  induction c with
  | skip => intro _ fs r h G a w hfr Q hq; cases h; exact wp_skip (hq G a w hfr)
  | exit id => intro _ fs r h G a w hfr Q hq; cases h; exact wp_exit (hq G a w hfr)
  | ret => intro _ fs r h G a w hfr Q hq; cases h; exact wp_ret (hq G a w hfr)
  | region id ops d =>
    intro hok fs r h G a w hfr Q hq
    simp only [codeOk, Bool.and_eq_true] at hok
    have hd : ∀ (i : Nat) o, ops[i]? = some o → ∀ d, o.dst = some d → d < nt := fun i o ho d hd => by
      have := (Array.all_eq_true'.1 hok.1) o (Array.mem_of_getElem? ho)
      rw [hd] at this
      simpa using this
    cases d with
    | false =>
      simp only [evCode] at h
      rw [lexA_range] at h
      cases hs : seqA F.cx call ops (List.range ops.size) fs with
      | none => rw [hs] at h; cases h
      | some s =>
        rw [hs] at h
        have hok' := seqA_sound hd hc (List.range ops.size) (fun _ => False) fs G a w List.nodup_range (fun _ _ h => h) hfr s hs
        refine wp_region ?_
        cases s with
        | ok fs' fp =>
          cases h
          refine hok' Q fun G' a' w' h' => hq G' a' w' ?_
          exact FR.region (h'.weak fun j hj => by rcases hj with hj | hj; exact hj.elim; exact List.mem_range.1 hj)
        | pan v fs' =>
          cases h
          exact hok' Q fun D' G' a' w' v' h' hv => hq D' G' a' w' v' h' hv
    | true =>
      have gen : ∀ (ops' : Array Oper) (qs : List (Nat × Nat)), (∀ (i : Nat) o, ops'[i]? = some o → ∀ d, o.dst = some d → d < nt) → ops'.size = ops.size → drawOk ops' qs = true → (∀ Q, wpAny F.cx.P .any ops' Q ops'.size (Array.replicate ops'.size false) a { w with drawn := w.drawn + 1 } → (Code.region id ops true).wp F.cx.P Q a w) →
          afterDraw ops.size qs (lexF F.cx call ops' 0 ops'.toList fs []) = some r → (Code.region id ops true).wp F.cx.P Q a w := fun ops' qs hd hsz hdok hlift h => by
        refine hlift Q ?_
        cases hs : lexF F.cx call ops' 0 ops'.toList fs [] with
        | none => rw [hs] at h; cases h
        | some s =>
          rw [hs] at h
          cases s with
          | ok fs' fps =>
            simp only [afterDraw] at h
            split at h
            · rename_i hcl
              cases h
              rw [← hsz] at hq
              exact draw_sound hm hd hc hdok hfr hs hcl fun G' a' w' h' => hq G' a' w' (FR.region h')
            · cases h
          | pan v fs' i fps =>
            simp only [afterDraw] at h
            split at h
            · rename_i hcl
              cases h
              simp only [Bool.and_eq_true] at hcl
              exact draw_pan hm hd hc hdok hfr hs hcl.2 hcl.1 fun D G' a' w' v' h' hv => hq D G' a' w' v' h' hv
            · cases h
      have hok2 := hok.2
      simp only [evCode] at h
      split at h
      · rename_i hp
        rw [hp] at hok2
        exact gen ops (ps id) hd rfl (by simpa using hok2) (fun Q h => wp_region_any hm h) h
      · rename_i i hp
        rw [hp] at hok2
        simp only [Bool.not_true, Bool.false_or, Bool.and_eq_true] at hok2
        have hP := permOk_spec hok2.1
        refine gen _ _ (fun j o ho d hdo => ?_) (permOps_size hP) hok2.2 (fun Q h => wp_region_perm hm hP h) h
        have hj : j < ops.size := by
          have := (Array.getElem?_eq_some_iff.1 ho).1
          rwa [permOps_size hP] at this
        obtain ⟨k, k1, k2, k3⟩ := hP.on j hj
        obtain ⟨o0, ho0⟩ : ∃ o, ops[k]? = some o := ⟨ops[k], by simp [k2]⟩
        have e := permOps_get hP ho0
        rw [k3, ho] at e
        cases e
        exact hd k o0 ho0 d hdo
  | seq x y ihx ihy =>
    intro hok fs r h G a w hfr Q hq
    simp only [codeOk, Bool.and_eq_true] at hok
    simp only [evCode] at h
    refine wp_seq ?_
    split at h
    · rename_i fs' hx
      refine ihx hok.1 fs _ hx G a w hfr _ ?_
      exact fun G' a' w' h' => ihy hok.2 fs' r h G' a' w' h' Q hq
    · rename_i hne
      refine ihx hok.1 fs r h G a w hfr _ ?_
      obtain ⟨o, fs'⟩ := r
      cases o with
      | norm => exact absurd h (hne fs')
      | exit id => exact hq
      | ret => exact hq
      | pan v => exact hq
  | cond c x y ihx ihy =>
    intro hok fs r h G a w hfr Q hq
    simp only [codeOk, Bool.and_eq_true] at hok
    simp only [evCode] at h
    have hr := rho_VR hfr.tm c
    split at h
    · rename_i e
      rw [e] at hr
      exact wp_cond_true hr.inv_bool (ihx hok.1 fs r h G a w hfr Q hq)
    · rename_i e
      rw [e] at hr
      exact wp_cond_false hr.inv_bool (ihy hok.2 fs r h G a w hfr Q hq)
    · cases h
  | block id c ih =>
    intro hok fs r h G a w hfr Q hq
    simp only [codeOk] at hok
    simp only [evCode] at h
    refine wp_block ?_
    split at h
    · rename_i k fs' hx
      refine ih hok fs _ hx G a w hfr _ ?_
      intro G' a' w' h'
      split at h
      · rename_i hk
        cases h
        subst hk
        simp only [Exit.inBlock, if_true]
        exact hq G' a' w' h'
      · rename_i hk
        cases h
        simp only [Exit.inBlock, hk, if_false]
        exact hq G' a' w' h'
    · rename_i hne
      refine ih hok fs r h G a w hfr _ ?_
      obtain ⟨o, fs'⟩ := r
      cases o with
      | norm => exact hq
      | exit id' => exact absurd h (hne id' fs')
      | ret => exact hq
      | pan v => exact hq
  | loop c ih =>
    intro hok fs r h G a w hfr Q hq
    simp only [codeOk] at hok
    simp only [evCode] at h
    refine wp_loop_ghost (fun n a w => ∃ fs G, FR F nt (fun _ => False) fs G a w ∧ iter n (evCode F.cx call ps L c) fs = some r) L ⟨fs, G, hfr, h⟩ ?_
    rintro n a w ⟨fs, G, hfr, h⟩
    cases n with
    | zero => cases h
    | succ n =>
      simp only [iter] at h
      split at h
      · rename_i fs' hx
        refine ih hok fs _ hx G a w hfr _ ?_
        exact fun G' a' w' h' => ⟨n, Nat.lt_succ_self n, fs', G', h', h⟩
      · rename_i hne
        refine ih hok fs r h G a w hfr _ ?_
        obtain ⟨o, fs'⟩ := r
        cases o with
        | norm => exact absurd h (hne fs')
        | exit id' => exact hq
        | ret => exact hq
        | pan v => exact hq
  | _ => intro _ fs r h; simp [evCode] at h

theorem evLoad_ptr {cx : Ctx} {fs : FS} {G : Gh} {t : TypeId} {x : AV} {xv : Value} {r : OR} (hx : VR G x xv) (h : evLoad cx t x fs = some r) : ∃ ad, xv = .pointer (some ad) := by
  unfold evLoad at h
  split at h
  · cases h
  · split at h
    · obtain ⟨b, o, rfl, _⟩ := hx.inv_ref; exact ⟨_, rfl⟩
    · obtain ⟨b, rfl, _⟩ := hx.inv_loc; exact ⟨_, rfl⟩
    · obtain ⟨b, rfl, _⟩ := hx.inv_ptr; exact ⟨_, rfl⟩
    · obtain ⟨b, m, rfl, _⟩ := hx.inv_rp; exact ⟨_, rfl⟩
    · cases h

theorem resA_run {F : Fix} {nt : Nat} {D : Nat → Prop} {fs : FS} {G : Gh} {a : Act} {w : World} (h : FR F nt D fs G a w) : ∀ (rs : List ResultVar) (l : List AV), resA F.cx.P F.cx fs rs = some l →
    ∃ vs, (rs.mapM fun | .tmp t => pure (a.tmps.getD t undef) | .cell b t => do loadVar t (← asAddr (a.tmps.getD b undef)) : Sem (List Value)).run F.cx.P w = .ok vs w ∧ VRL G l vs
  | [], l, hr => by cases hr; exact ⟨[], by simp, .nil⟩
  | .tmp t :: rs, l, hr => by
    simp only [resA] at hr
    split at hr
    · rename_i r hrr
      cases hr
      obtain ⟨vs, h1, h2⟩ := resA_run h rs r hrr
      exact ⟨_ :: vs, by simp only [List.mapM_cons, Sem.run_bind, Sem.run_pure, Result.andThen_ok, h1], .cons _ _ _ _ (h.tm t) h2⟩
    · cases hr
  | .cell b t :: rs, l, hr => by
    simp only [resA] at hr
    split at hr
    · rename_i v b' S' fp r hv hrr
      cases hr
      obtain ⟨vs, h1, h2⟩ := resA_run h rs r hrr
      obtain ⟨ad, had⟩ := evLoad_ptr (h.tm b) hv
      obtain ⟨_, _, v', h3, h4⟩ := evLoad_run h.pre (h.tm b) hv
      rw [had] at h3
      simp only [Instr.loadAt, Instr.sureAddr, pure_bind] at h3
      have haa : (asAddr (a.tmps.getD b undef)).run F.cx.P w = .ok ad w := by rw [had]; rfl
      exact ⟨v' :: vs, by simp only [List.mapM_cons, Sem.run_bind, Sem.run_pure, Result.andThen_ok, haa, h3, h1], .cons _ _ _ _ h4 h2⟩
    · cases hr

theorem oneOf_VR {G : Gh} {l : List AV} {vs : List Value} (h : VRL G l vs) : VR G (oneOf l) (if h : vs.toArray.size = 1 then vs.toArray[0] else .tuple vs.toArray) := by
  cases h with
  | nil => simp [oneOf]; exact .tup [] #[] .nil
  | cons a v l m ha hl =>
    cases hl with
    | nil => simpa [oneOf] using ha
    | cons b u l m hb hl =>
      have : oneOf (a :: b :: l) = .tup (a :: b :: l) := rfl
      rw [this]
      simp
      exact .tup _ _ (by simpa using .cons _ _ _ _ ha (.cons _ _ _ _ hb hl))

theorem lowB_get {h0 t0 : Nat} : ∀ {l : List HBox} {i : Nat} {bx : HBox}, lowB h0 t0 l = true → l[i]? = some bx → AV.lowL h0 t0 bx.cs = true
  | a :: l, 0, bx, h, e => by simp at e; subst e; simp only [lowB, Bool.and_eq_true] at h; exact h.1
  | a :: l, i + 1, bx, h, e => by simp only [lowB, Bool.and_eq_true] at h; exact lowB_get h.2 (by simpa using e)
  | [], i, bx, _, e => by simp at e

/-- the first boxes and the first tokens alone -/
theorem Inv.dom {w0 : World} {B : Nat} {G : Gh} {S : St} {w : World} (hi : Inv w0 B G S w) : (∀ i b, G.phi i = some b → i < S.H.length) ∧ ∀ i v x, G.rv i v = some x → i < S.H.length := ⟨hi.phid, hi.ex.rvd⟩
theorem EntR.low {G : Gh} {h0 t0 : Nat} (hp : (∀ i b, G.phi i = some b → i < h0) ∧ ∀ i v x, G.rv i v = some x → i < h0) (hf : ∀ t n, G.fr t = some n → t < t0) {l : List AV} {m : List MapEntry} (r : EntR G l m) : AV.lowL h0 t0 l = true := by
  induction r with
  | nil => rfl
  | cons k v e l m h1 h3 h4 h5 _ ih => simp [AV.lowL, AV.low, h1.low hp hf, h3.low hp hf, ih]
/-- what a box holds lies in the world -/
theorem Inv.lowBox {w0 : World} {B : Nat} {G : Gh} {S : St} {w : World} (hi : Inv w0 B G S w) {i : Nat} {bx : HBox} (hb : S.H[i]? = some bx) : AV.lowL S.H.length S.T.length bx.cs = true := by
  have hf : ∀ t n, G.fr t = some n → t < S.T.length := fun t n h => by
    rw [hi.fr] at h; exact (List.getElem?_eq_some_iff.1 h).1
  rcases Nat.lt_or_ge bx.ty rowT with h1 | h1
  · obtain ⟨b, vs, _, _, _, k4, _⟩ := hi.box i bx hb h1
    exact k4.low hi.dom hf
  · rcases Nat.lt_or_ge bx.ty mapT with h2 | h2
    · obtain ⟨ver, cells, b, vs, k1, _, _, k4, _⟩ := hi.ex.row i bx hb h1 h2
      rw [k1]
      simp [AV.lowL, AV.low, k4.low hi.dom hf]
    · obtain ⟨b, es, clock, _, _, _, k4, _⟩ := hi.ex.mp i bx hb h2
      exact k4.low hi.dom hf
/-- rows and maps, in the caller's words -/
theorem EntR.cut {G G' : Gh} {h0 t0 : Nat} (hc : Cut G G' h0 t0) {l : List AV} {m : List MapEntry} (r : EntR G l m) (h2 : AV.lowL h0 t0 l = true) : EntR G' l m := by
  induction r with
  | nil => exact .nil
  | cons k v e l m h1 h3 h4 h5 _ ih =>
    simp only [AV.lowL, AV.low, Bool.and_eq_true] at h2
    obtain ⟨cs, q1, q2⟩ := h5
    have hs : v.sealed = true := by
      have : AV.sealedL [v] = true := by
        rw [sealedL_flat (es := [v]) (fl := cs ++ []) (by simp [flatQ, q1])]
        simpa using q2
      simpa [AV.sealedL] using this
    exact .cons k v e l m (h1.cut hc h4 h2.1.1) (h3.cut hc hs h2.1.2.1) h4 ⟨cs, q1, q2⟩ (ih h2.2)
theorem InvX.cut {B : Nat} {G' G2 : Gh} {S' S2 : St} {w' : World} {h0 t0 : Nat} (hx : InvX B G' S' w') (hc : Cut G' G2 h0 t0) (hl : h0 = S2.H.length)
    (hrv : ∀ i v x, G2.rv i v = some x → i < h0 ∧ G'.rv i v = some x) (hphi : ∀ i b, G2.phi i = some b → G'.phi i = some b) (htau : ∀ t x, G2.tau t = some x → G'.tau t = some x)
    (hH : ∀ i bx, S2.H[i]? = some bx → i < h0 ∧ S'.H[i]? = some bx ∧ AV.lowL h0 t0 bx.cs = true) : InvX B G2 S2 w' where
  row i bx hb h1 h2 := by
    obtain ⟨g1, g2, g3⟩ := hH i bx hb
    obtain ⟨ver, cells, b, vs, k1, k2, k3, k4, k5, k6, k7, k8, k9⟩ := hx.row i bx g2 h1 h2
    rw [k1] at g3
    simp only [AV.lowL, Bool.and_eq_true] at g3
    exact ⟨ver, cells, b, vs, k1, by rw [hc.rv i ver g1]; exact k2, k3, k4.cut hc k8 g3.2, k5, k6, k7, k8, fun v' x h => k9 v' x (hrv i v' x h).2⟩
  mp i bx hb h1 := by
    obtain ⟨g1, g2, g3⟩ := hH i bx hb
    obtain ⟨b, es, clock, k1, k2, k3, k4, k5⟩ := hx.mp i bx g2 h1
    exact ⟨b, es, clock, by rw [hc.phi i g1]; exact k1, k2, k3, k4.cut hc g3, by rw [hc.I]; exact k5⟩
  rvd i v x h := by rw [← hl]; exact (hrv i v x h).1
  rvb i v x h := hx.rvb i v x (hrv i v x h).2
  rvj i j v u b m m' h k := hx.rvj i j v u b m m' (hrv i v _ h).2 (hrv j u _ k).2
  rvp i v b m j h k := hx.rvp i v b m j (hrv i v _ h).2 (hphi j b k)
  rvt i v b m t m' h k := hx.rvt i v b m t m' (hrv i v _ h).2 (htau t _ k)
  rvI i v b m o h := by rw [hc.I]; exact hx.rvI i v b m o (hrv i v _ h).2
  mpt t b m h i bx hb h1 k := by
    obtain ⟨g1, g2, g3⟩ := hH i bx hb
    exact hx.mpt t b m (htau t _ h) i bx g2 h1 (hphi i b k)

theorem keep_sound {w0 : World} {B : Nat} {G G' : Gh} {S S' : St} {w w' : World} {tc : Nat} {T2 : List Nat} (hi : Inv w0 B G S w) (hi' : Inv w0 B G' S' w') (he : Ext G w G' w') (hT2 : T2 = S'.T.take tc) (htc : S.T.length ≤ tc)
    (hlen : S.H.length ≤ S'.H.length) (hlow : lowB S.H.length tc (S'.H.take S.H.length) = true) :
    ∃ G2, Inv w0 B G2 ⟨S'.H.take S.H.length, T2⟩ w' ∧ Ext G w G2 w' ∧ G2.nu = G.nu ∧ Cut G' G2 S.H.length tc := by
  let G2 : Gh := { I := G'.I, phi := fun i => if i < S.H.length then G'.phi i else none, nu := G.nu, tau := fun t => if t < tc then G'.tau t else none, fr := fun t => T2[t]?, rv := fun i v => if i < S.H.length then G'.rv i v else none }
  have hT : ∀ t, t < tc → T2[t]? = S'.T[t]? := fun t ht => by rw [hT2, List.getElem?_take_of_lt ht]
  have hTd : ∀ t n, T2[t]? = some n → t < tc := fun t n h => by
    have := (List.getElem?_eq_some_iff.1 h).1
    rw [hT2] at this
    simp at this
    omega
  have hH : ∀ i bx, (S'.H.take S.H.length)[i]? = some bx → i < S.H.length ∧ S'.H[i]? = some bx := fun i bx h => by
    have hlt := (List.getElem?_eq_some_iff.1 h).1
    simp at hlt
    exact ⟨by omega, by rw [← h, List.getElem?_take_of_lt (by omega)]⟩
  have cut : Cut G' G2 S.H.length tc := ⟨rfl, fun i hi => by simp [G2, hi], fun t ht => by simp [G2, ht], fun t ht => by
    show T2[t]? = G'.fr t
    rw [hi'.fr, hT t ht], fun i v hi => by simp [G2, hi]⟩
  have hrv : ∀ i v x, G2.rv i v = some x → i < S.H.length ∧ G'.rv i v = some x := fun i v x h => by
    by_cases hl : i < S.H.length
    · exact ⟨hl, by simpa [G2, hl] using h⟩
    · simp [G2, hl] at h
  have hphi : ∀ i b, G2.phi i = some b → i < S.H.length ∧ G'.phi i = some b := fun i b h => by
    by_cases hl : i < S.H.length
    · exact ⟨hl, by simpa [G2, hl] using h⟩
    · simp [G2, hl] at h
  have htau : ∀ t x, G2.tau t = some x → t < tc ∧ G'.tau t = some x := fun t x h => by
    by_cases hl : t < tc
    · exact ⟨hl, by simpa [G2, hl] using h⟩
    · simp [G2, hl] at h
  have hfrd : ∀ t n, G.fr t = some n → t < S.T.length := fun t n h => by
    rw [hi.fr] at h; exact (List.getElem?_eq_some_iff.1 h).1
  have le : Gle G G2 := by
    refine ⟨he.le.I, fun i b hb => ?_, fun _ _ _ h => h, fun t n hn => ?_, fun i v x h => by have := hi.ex.rvd i v x h; simp [G2, this, he.le.rv i v x h]⟩
    · have := hi.phid i b hb
      simp [G2, this, he.le.phi i b hb]
    · have ht : t < tc := Nat.lt_of_lt_of_le (hfrd t n hn) htc
      obtain ⟨n', e1, e2, e3⟩ := he.le.fr t n hn
      refine ⟨n', by show T2[t]? = some n'; rw [hT t ht, ← hi'.fr, e1], e2, fun h => ?_⟩
      have := e3 h
      simp [G2, ht, this]
  refine ⟨G2, ⟨hi'.gl, hi'.below, hi'.base, hi'.imm, fun _ => rfl, fun i bx hb hty => ?_, fun i b hb => ?_, fun i j b h1 h2 => hi'.phij i j b (hphi i b h1).2 (hphi j b h2).2, fun t n hn => ?_, fun t x hx => ?_, fun t u b m m' h1 h2 => hi'.tauj t u b m m' (htau t _ h1).2 (htau u _ h2).2, fun i b hb => hi'.phil i b (hphi i b hb).2, fun i bx hb q1 q2 => ?_, hi'.ex.cut cut (by simp; omega) hrv (fun i b h => (hphi i b h).2) (fun t x h => (htau t x h).2) fun i bx hb => ⟨(hH i bx hb).1, (hH i bx hb).2, lowB_get hlow hb⟩⟩,
    ⟨le, he.size, fun i b hb => he.phi i b (hphi i b hb).2, fun t x hx => he.tau t x (htau t x hx).2, he.I, he.keep, fun i v b m h => he.rv i v b m (hrv i v _ h).2⟩, rfl, cut⟩
  · obtain ⟨hlt, hb'⟩ := hH i bx hb
    obtain ⟨b, vs, j1, j2, j3, j4, j5, j6, j7, j8⟩ := hi'.box i bx hb' hty
    exact ⟨b, vs, by simp [G2, hlt, j1], j2, j3, j4.cut cut j8 (lowB_get hlow hb), j5, j6, j7, j8⟩
  · have := (hphi i b hb).1
    simp; omega
  · have hlt := hTd t n hn
    obtain ⟨b, m, vs, ty, fz, j1, j2, j3, j4, j5, j6, j7⟩ := hi'.tok t n (by rw [← hT t hlt]; exact hn)
    exact ⟨b, m, vs, ty, fz, by simp [G2, hlt, j1], j2, j3, j4, j5, j6, fun i hb => j7 i (hphi i b hb).2⟩
  · obtain ⟨h1, h2⟩ := htau t x hx
    have := hi'.taud t x h2
    show t < T2.length
    rw [hT2]; simp; omega
  · obtain ⟨hlt, hb'⟩ := hH i bx hb
    have := hi'.tel i bx hb' q1 q2
    simp [G2, this]

/-- handed back: in the caller's own words, if they suffice -/
theorem finish_sound {w0 : World} {B : Nat} {G G' : Gh} {S S' S2 : St} {w w' : World} {v r : AV} {v' : Value} (hi : Inv w0 B G S w) (hi' : Inv w0 B G' S' w') (he : Ext G w G' w') (hv : VR G' v v') (h : finish S v S' = some (r, S2)) :
    ∃ G2, Inv w0 B G2 S2 w' ∧ Ext G w G2 w' ∧ G2.nu = G.nu ∧ VR G2 r v' := by
  have hfrd : ∀ {G : Gh} {S : St} {w : World}, Inv w0 B G S w → ∀ t n, G.fr t = some n → t < S.T.length := fun hi t n h => by
    rw [hi.fr] at h; exact (List.getElem?_eq_some_iff.1 h).1
  unfold finish at h
  split at h
  · rename_i hsl
    split at h
    · rename_i hc
      cases h
      simp only [Bool.and_eq_true, beq_iff_eq] at hc
      obtain ⟨⟨c1, c2⟩, c3⟩ := hc
      have c1 := boxEqL_spec _ _ c1
      let G2 : Gh := { I := G'.I, phi := fun i => if i < S.H.length then G'.phi i else none, nu := G.nu, tau := fun t => if t < S.T.length then G'.tau t else none, fr := fun t => S.T[t]?, rv := fun i v => if i < S.H.length then G'.rv i v else none }
      have hT : ∀ t, t < S.T.length → S'.T[t]? = S.T[t]? := fun t ht => by
        have := congrArg (fun l : List Nat => l[t]?) c2
        simpa [List.getElem?_take, ht] using this
      have hH : ∀ i, i < S.H.length → S'.H[i]? = S.H[i]? := fun i hl => by
        have := congrArg (fun l : List HBox => l[i]?) c1
        simpa [List.getElem?_take, hl] using this
      have cut : Cut G' G2 S.H.length S.T.length := ⟨rfl, fun i hi => by simp [G2, hi], fun t ht => by simp [G2, ht], fun t ht => by
        show S.T[t]? = G'.fr t
        rw [hi'.fr, hT t ht], fun i v hi => by simp [G2, hi]⟩
      have hrv : ∀ i v x, G2.rv i v = some x → i < S.H.length ∧ G'.rv i v = some x := fun i v x h => by
        by_cases hl : i < S.H.length
        · exact ⟨hl, by simpa [G2, hl] using h⟩
        · simp [G2, hl] at h
      have hphi : ∀ i b, G2.phi i = some b → i < S.H.length ∧ G'.phi i = some b := fun i b h => by
        by_cases hl : i < S.H.length
        · exact ⟨hl, by simpa [G2, hl] using h⟩
        · simp [G2, hl] at h
      have htau : ∀ t x, G2.tau t = some x → t < S.T.length ∧ G'.tau t = some x := fun t x h => by
        by_cases hl : t < S.T.length
        · exact ⟨hl, by simpa [G2, hl] using h⟩
        · simp [G2, hl] at h
      have le : Gle G G2 := by
        refine ⟨he.le.I, fun i b hb => ?_, fun _ _ _ h => h, fun t n hn => ?_, fun i v x h => by have := hi.ex.rvd i v x h; simp [G2, this, he.le.rv i v x h]⟩
        · have := hi.phid i b hb
          simp [G2, this, he.le.phi i b hb]
        · have ht := hfrd hi t n hn
          rw [hi.fr] at hn
          refine ⟨n, hn, Nat.le_refl _, fun _ => ?_⟩
          obtain ⟨n', e1, e2, e3⟩ := he.le.fr t n (by rw [hi.fr]; exact hn)
          rw [hi'.fr, hT t ht, hn] at e1
          cases e1
          simp [G2, ht, e3 rfl]
      refine ⟨G2, ⟨hi'.gl, hi'.below, hi'.base, hi'.imm, fun _ => rfl, fun i bx hb hty => ?_, fun i b hb => (hphi i b hb).1, fun i j b h1 h2 => hi'.phij i j b (hphi i b h1).2 (hphi j b h2).2, fun t n hn => ?_, fun t x hx => (htau t x hx).1, fun t u b m m' h1 h2 => hi'.tauj t u b m m' (htau t _ h1).2 (htau u _ h2).2, fun i b hb => hi'.phil i b (hphi i b hb).2, fun i bx hb q1 q2 => ?_, hi'.ex.cut cut rfl hrv (fun i b h => (hphi i b h).2) (fun t x h => (htau t x h).2) fun i bx hb => ⟨(List.getElem?_eq_some_iff.1 hb).1, by rw [hH i (List.getElem?_eq_some_iff.1 hb).1]; exact hb, hi.lowBox hb⟩⟩,
        ⟨le, he.size, fun i b hb => he.phi i b (hphi i b hb).2, fun t x hx => he.tau t x (htau t x hx).2, he.I, he.keep, fun i v b m h => he.rv i v b m (hrv i v _ h).2⟩, rfl, ?_⟩
      · have hlt := (List.getElem?_eq_some_iff.1 hb).1
        obtain ⟨b, vs, j1, j2, j3, j4, j5, j6, j7, j8⟩ := hi'.box i bx (by rw [hH i hlt]; exact hb) hty
        exact ⟨b, vs, by simp [G2, hlt, j1], j2, j3, j4.cut cut j8 (hi.lowBox hb), j5, j6, j7, j8⟩
      · have hlt := (List.getElem?_eq_some_iff.1 hn).1
        obtain ⟨b, m, vs, ty, fz, j1, j2, j3, j4, j5, j6, j7⟩ := hi'.tok t n (by rw [hT t hlt]; exact hn)
        exact ⟨b, m, vs, ty, fz, by simp [G2, hlt, j1], j2, j3, j4, j5, j6, fun i hb => j7 i (hphi i b hb).2⟩
      · have hlt := (List.getElem?_eq_some_iff.1 hb).1
        have := hi'.tel i bx (by rw [hH i hlt]; exact hb) q1 q2
        simp [G2, this]
      · exact (hv.strip S.T.length).cut cut (by rw [sealed_strip]; exact hsl) c3
    · split at h
      · rename_i hc
        cases h
        simp only [Bool.and_eq_true, decide_eq_true_eq, beq_iff_eq] at hc
        obtain ⟨⟨⟨c1, c2⟩, c3⟩, c4⟩ := hc
        obtain ⟨G2, g1, g2, g3, g4⟩ := keep_sound hi hi' he c2.symm (Nat.le_refl _) c1 c3
        exact ⟨G2, g1, g2, g3, (hv.strip S.T.length).cut g4 (by rw [sealed_strip]; exact hsl) c4⟩
      · split at h
        · rename_i hc
          cases h
          simp only [Bool.and_eq_true, decide_eq_true_eq] at hc
          obtain ⟨⟨c1, c3⟩, c4⟩ := hc
          have htl : S.T.length ≤ S'.T.length := by
            rcases Nat.lt_or_ge S'.T.length S.T.length with hlt | hge
            · exfalso
              have h0 : S.T[S'.T.length]? = some S.T[S'.T.length] := List.getElem?_eq_getElem hlt
              obtain ⟨n', e1, _⟩ := he.le.fr S'.T.length _ (by rw [hi.fr]; exact h0)
              have := hfrd hi' _ _ e1
              omega
            · exact hge
          obtain ⟨G2, g1, g2, g3, g4⟩ := keep_sound (tc := S'.T.length) (T2 := S'.T) hi hi' he (by simp) htl c1 c3
          exact ⟨G2, g1, g2, g3, hv.cut g4 hsl c4⟩
        · cases h
          let G2 : Gh := { G' with nu := G.nu }
          have cut : Cut G' G2 S'.H.length S'.T.length := ⟨rfl, fun _ _ => rfl, fun _ _ => rfl, fun _ _ => rfl, fun _ _ _ => rfl⟩
          refine ⟨G2, ⟨hi'.gl, hi'.below, hi'.base, hi'.imm, hi'.fr, fun i bx hb hty => ?_, hi'.phid, hi'.phij, hi'.tok, hi'.taud, hi'.tauj, hi'.phil, hi'.tel, hi'.ex.cut cut rfl (fun i v x h => ⟨hi'.ex.rvd i v x h, h⟩) (fun _ _ h => h) (fun _ _ h => h) fun i bx hb => ⟨(List.getElem?_eq_some_iff.1 hb).1, hb, hi'.lowBox hb⟩⟩, ⟨⟨he.le.I, he.le.phi, fun _ _ _ h => h, he.le.fr, he.le.rv⟩, he.size, he.phi, he.tau, he.I, he.keep, he.rv⟩, rfl, hv.cut cut hsl (hv.low hi'.dom (hfrd hi'))⟩
          obtain ⟨b, vs, j1, j2, j3, j4, j5, j6, j7, j8⟩ := hi'.box i bx hb hty
          exact ⟨b, vs, j1, j2, j3, j4.cut cut j8 (hi'.lowBox hb), j5, j6, j7, j8⟩
  · cases h

/-- the environment is as it says: the functions that are followed pass the check, the others' answers are proved -/
structure EnvOK (P : Program) (E : Env) : Prop where
  mixed : P.follows .mixedOrders = true
  code : ∀ f fn c, E.ok f = true → P.funcs[f]? = some fn → fn.body = some c → codeOk fn.ntmps (E.ps f) c = true
  ext : ∀ f args S r S', E.ok f = false → E.ext f args S = some (r, S') →
    (∃ fn, P.funcs[f]? = some fn ∧ (fn.name == "runtime.NumGoroutine") = false ∧ fn.body.isSome = true) ∧
    ∀ (w0 : World) (B : Nat) (G : Gh) (w : World) (vs : Array Value), Inv w0 B G S w → VRL G args vs.toList →
      Calls P f vs w fun e w' => ∃ G', Inv w0 B G' S' w' ∧ Ext G w G' w' ∧ G'.nu = G.nu ∧ ResR G' r e

theorem args_VR {G : Gh} {args : List AV} {vs : Array Value} (h : VRL G args vs.toList) (n x : Nat) : VR G (argsA args x) ((vs ++ Array.replicate n undef).getD x undef) := by
  have hl := h.length
  simp at hl
  unfold argsA
  rw [Array.getD_eq_getD_getElem?, Array.getElem?_append]
  cases ha : args[x]? with
  | some a =>
    obtain ⟨v, h1, h2⟩ := h.get ha
    have hlt : x < vs.size := by
      have := (List.getElem?_eq_some_iff.1 ha).1; omega
    rw [if_pos hlt]
    simp at h1
    rw [h1]
    exact h2
  | none =>
    have hge : ¬ x < vs.size := by
      rw [List.getElem?_eq_none_iff] at ha; omega
    rw [if_neg hge, Array.getElem?_replicate]
    by_cases hx : x - vs.size < n
    · rw [if_pos hx]; exact .undef
    · rw [if_neg hx]; exact .undef

/-- what is asked of one call's answer -/
def AnsOK (P : Program) (lim : Nat) (f : FuncId) (args : List AV) (S : St) (r : Res) (S' : St) : Prop :=
  (∃ fn, P.funcs[f]? = some fn ∧ (fn.name == "runtime.NumGoroutine") = false ∧ fn.body.isSome = true) ∧
  ∀ (w0 : World) (B : Nat) (G : Gh) (w : World) (vs : Array Value), Inv w0 B G S w → (∀ d v, d < lim → G.nu d v = none) → VRL G args vs.toList →
    Calls P f vs w fun e w' => ∃ G', Inv w0 B G' S' w' ∧ Ext G w G' w' ∧ G'.nu = G.nu ∧ ResR G' r e

theorem func_sound {P : Program} {E : Env} (hE : EnvOK P E) {n : Nat} {call : Cal} (hcall : CalOK P call n) {f : FuncId} {args : List AV} {S : St} {r : Res} {S' : St} (hok : E.ok f = true) (h : evFunc P E call n f args S = some (r, S')) : AnsOK P (n + 1) f args S r S' := by
  unfold evFunc at h
  split at h
  · cases h
  · rename_i fn hfn
    split at h
    · cases h
    · rename_i c hbody
      split at h
      · rename_i hcond
        refine ⟨⟨fn, hfn, hcond.2, by simp [hbody]⟩, fun w0 B G w vs hi hnu hargs => ?_⟩
        have hl := hargs.length
        simp at hl
        let F : Fix := { w0 := w0, B := B, Ge := G, we := w, Se := S, cx := ⟨P, E.esc f, n⟩, ie := hi }
        have hfr : FR F fn.ntmps (fun _ => False) ⟨argsA args, fun _ => (0, []), 0, S⟩ G { tmps := vs ++ Array.replicate (fn.ntmps - vs.size) undef, defers := [] } w :=
          ⟨⟨hi, .refl G w, ⟨fun d hd => absurd rfl hd, fun d e k hd => absurd rfl hd⟩⟩, fun x => args_VR hargs _ x, by simp; omega, rfl, fun d v hd => hnu d v (by have : d < n := hd; omega), fun v hv => absurd (hnu n v (by omega)) hv, fun _ _ _ => rfl, .refl G⟩
        have hcal : CalOK F.cx.P call F.cx.dep := hcall
        cases hev : evCode ⟨P, E.esc f, n⟩ call (E.ps f) n c ⟨argsA args, fun _ => (0, []), 0, S⟩ with
        | none => rw [hev] at h; cases h
        | some o =>
          rw [hev] at h
          refine calls_of_wp hfn hbody ?_
          refine evCode_sound (F := F) hE.mixed hcal c (hE.code f fn c hok hfn hbody) _ o hev G _ w hfr _ ?_
          obtain ⟨out, fs⟩ := o
          have fin : ∀ (G' : Gh) (a : Act) (w' : World), FR F fn.ntmps (fun _ => False) fs G' a w' → (match resA P ⟨P, E.esc f, n⟩ fs fn.results.toList with | some vs => finRet S (oneOf vs) fs.S | none => none) = some (r, S') →
              a.defers = [] ∧ ∃ v, (results fn a.tmps).run P w' = .ok v w' ∧ ∃ G2, Inv w0 B G2 S' w' ∧ Ext G w G2 w' ∧ G2.nu = G.nu ∧ ResR G2 r (.returned v) := by
            intro G' a w' hfr' hres
            split at hres
            · rename_i l hl
              obtain ⟨vs', h1, h2⟩ := resA_run hfr' fn.results.toList l hl
              unfold finRet at hres
              split at hres
              · rename_i rv S2 hfin
                cases hres
                obtain ⟨G2, g1, g2, g3, g4⟩ := finish_sound hi hfr'.pre.inv hfr'.pre.ext (oneOf_VR h2) hfin
                refine ⟨hfr'.df, _, ?_, G2, g1, g2, g3, g4⟩
                unfold results
                simp only [Sem.run_bind]
                rw [Array.mapM_eq_mapM_toList]
                simp only [Sem.run_map]
                rw [show F.cx.P = P from rfl] at h1
                erw [h1]
                simp
              · cases hres
            · cases hres
          cases out with
          | norm => exact fun G' a w' hfr' => fin G' a w' hfr' h
          | ret => exact fun G' a w' hfr' => fin G' a w' hfr' h
          | exit id => cases h
          | pan v =>
            intro D G' a w' v' hfr' hv
            simp only [fromBody, finPan] at h
            split at h
            · rename_i rv S2 hfin
              cases h
              obtain ⟨G2, g1, g2, g3, g4⟩ := finish_sound hi hfr'.pre.inv hfr'.pre.ext hv hfin
              exact ⟨hfr'.df, G2, g1, g2, g3, v', rfl, g4⟩
            · cases h
      · cases h
end Go.Proofs.YtcpoinfdnimanaaGreatDoor.AE
