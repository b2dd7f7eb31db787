/- One operation of the evaluator is the model's. No condition. -/
import Derived.Test.YtemggoaefohliaaAeH
namespace Go.Proofs.Ytemggoaefohliaa.AE
set_option linter.unusedVariables false
set_option linter.unusedSimpArgs false
open Go Go.RowKit

def ResR (G : Gh) : Res → Ending → Prop
  | .ret v, .returned v' => VR G v v'
  | .pan v, .panicked ch => ∃ v', ch = [{ v := v', recovered := false }] ∧ VR G v v'
  | _, _ => False

/-- what is asked of the calls that an evaluation makes: frames below 'lim' are theirs -/
def CalOK (P : Program) (call : Cal) (lim : Nat) : Prop := ∀ f args S r S', call f args S = some (r, S') →
  (∃ fn, P.funcs[f]? = some fn ∧ (fn.name == "runtime.NumGoroutine") = false ∧ fn.body.isSome = true) ∧
  ∀ (w0 : World) (B : Nat) (G : Gh) (w : World) (vs : Array Value), Inv w0 B G S w → (∀ d v, d < lim → G.nu d v = none) → VRL G args vs.toList →
    Calls P f vs w fun e w' => ∃ G', Inv w0 B G' S' w' ∧ Ext G w G' w' ∧ G'.nu = G.nu ∧ ResR G' r e

structure PostP (F : Fix) (G : Gh) (b' : Nat → Nat × List AV) (S' : St) (v : AV) (G' : Gh) (w' : World) (v' : Value) : Prop where
  vr : VR G' v v'
  inv : Inv F.w0 F.B G' S' w'
  le : Gle G G'
  ext : Ext F.Ge F.we G' w'
  loc : LInv F.we.heap.size G' w' F.cx.dep b'
  nu : G'.nu = G.nu

theorem wp_value {P : Program} {o : Oper} {a : Act} {w w' : World} {v : Value} {next : Act → World → Prop} {Q : Exit → Act → World → Prop} (h : (execOp a.eval o).run P w = .ok (.value v) w') (hk : next (a.put o.dst v) w') : o.wp P a w next Q := by
  unfold Oper.wp; rw [h]; exact hk
theorem wp_skipped {P : Program} {o : Oper} {a : Act} {w w' : World} {next : Act → World → Prop} {Q : Exit → Act → World → Prop} (h : (execOp a.eval o).run P w = .ok .skip w') (hk : next (a.put o.dst (.tuple #[])) w') : o.wp P a w next Q := by
  unfold Oper.wp; rw [h]; exact hk

theorem evLoad_run {F : Fix} {fs : FS} {G : Gh} {w : World} {t : TypeId} {x v : AV} {xv : Value} {b' : Nat → Nat × List AV} {S' : St} {fp : FP} (hp : Pre F fs G w) (hx : VR G x xv) (h : evLoad F.cx t x fs = some (.val v b' S' fp)) :
    b' = fs.b ∧ S' = fs.S ∧ ∃ v', (Instr.loadAt t xv).run F.cx.P w = .ok v' w ∧ VR G v v' := by
  unfold evLoad at h
  split at h
  · cases h
  · rename_i hk
    have hu : (F.cx.P.underlying t).isSome := by
      cases hh : F.cx.P.underlying t with
      | none => simp [knownQ, hh] at hk
      | some _ => rfl
    split at h
    · rename_i cs
      split at h
      · rename_i r hr
        cases h
        obtain ⟨b, o, rfl, hv⟩ := hx.inv_ref
        obtain ⟨v', h1, h2⟩ := rdc_load (w := w) hu (Cells.of_imm hp.inv hv) hr
        exact ⟨rfl, rfl, v', by simp [Instr.loadAt, Instr.sureAddr, h1], h2⟩
      · cases h
    · rename_i dep d ver off
      split at h
      · rename_i hc
        split at h
        · rename_i r hr
          cases h
          obtain ⟨rfl, hver, h0⟩ := hc
          obtain ⟨k, rfl, hk'⟩ := hx.inv_loc
          obtain ⟨k', vs, ty, k1, k2, k3, k4, _⟩ := hp.loc.box d (by rw [hver]; exact h0)
          rw [hver, hk'] at k1; cases k1
          obtain ⟨v', h1, h2⟩ := rdc_load (w := w) hu (Cells.of_heap k3 k4 off) hr
          exact ⟨rfl, rfl, v', by simp [Instr.loadAt, Instr.sureAddr, h1], h2⟩
        · cases h
      · cases h
    · rename_i id off
      split at h
      · rename_i bx hbx
        split at h
        · rename_i r hr
          cases h
          obtain ⟨k, rfl, hk'⟩ := hx.inv_ptr
          obtain ⟨k', vs, k1, k2, k3, k4, _⟩ := hp.inv.box id bx hbx
          rw [hk'] at k1; cases k1
          obtain ⟨v', h1, h2⟩ := rdc_load (w := w) hu (Cells.of_heap k3 k4 off) hr
          exact ⟨rfl, rfl, v', by simp [Instr.loadAt, Instr.sureAddr, h1], h2⟩
        · cases h
      · cases h
    · cases h
theorem evLoad_nopan {cx : Ctx} {t : TypeId} {x v : AV} {fs : FS} {S : St} (h : evLoad cx t x fs = some (.pan v S)) : False := by
  unfold evLoad at h
  repeat' split at h
  all_goals cases h

theorem evStore_run {F : Fix} {fs : FS} {G : Gh} {w : World} {i : Nat} {t : TypeId} {x y v : AV} {xv yv : Value} {b' : Nat → Nat × List AV} {S' : St} {fp : FP} (hp : Pre F fs G w) (hx : VR G x xv) (hy : VR G y yv) (h : evStore F.cx t x y fs = some (.val v b' S' fp)) :
    ∃ w', (Instr.storeAt t xv yv).run F.cx.P w = .ok () w' ∧ Post F fs.c i G b' S' v G w' (.tuple #[]) := by
  unfold evStore at h
  split at h
  · cases h
  · rename_i new hnew
    obtain ⟨n1, n2, n3⟩ := hy.cells hnew
    have hl := n1.length
    simp at hl
    split at h
    · rename_i hc
      obtain ⟨ii, hii⟩ := Option.isSome_iff_exists.1 hc.2
      have hsz : ¬ (yv.cells.size ≠ F.cx.P.cellsOf t) := by rw [hl, hc.1]; simp
      have run : ∀ b o, (∀ j, j < yv.cells.toList.length → (w.cell? ⟨b, o + j, none⟩).isSome = true) → (∀ j, j < yv.cells.toList.length → w.frozen? ⟨b, o + j, none⟩ = false) →
          (Instr.storeAt t (.pointer (some ⟨b, o, none⟩)) yv).run F.cx.P w = .ok () (setL b o yv.cells.toList w) := fun b o r1 r2 => by
        have := run_storeCells_at F.cx.P b o yv.cells.toList 0 w n2 (by simpa using r1) (by simpa using r2)
        simp only [Nat.add_zero] at this
        simp only [Instr.storeAt, Instr.sureAddr, storeVar, Sem.run_bind, Sem.run_pure, Result.andThen_ok, run_sizeOf' F.cx.P w t ii hii, hsz, if_false, this, ne_eq]
      split at h
      · rename_i dep d ver off
        split at h
        · rename_i hd
          split at h
          · rename_i cs hw
            cases h
            obtain ⟨rfl, hver, h0⟩ := hd
            obtain ⟨k, rfl, hk'⟩ := hx.inv_loc
            obtain ⟨r1, r2, hpost⟩ := store_local (i := i) hp hver h0 hk' hw n1 n2 n3
            exact ⟨_, run k off r1 r2, hpost⟩
          · cases h
        · cases h
      · rename_i id off
        split at h
        · rename_i bx hbx
          split at h
          · rename_i cs hw
            split at h
            · rename_i hse
              cases h
              obtain ⟨k, rfl, hk'⟩ := hx.inv_ptr
              obtain ⟨r1, r2, hpost⟩ := store_heap (i := i) hp hbx hk' hw hse n1 n2 n3
              exact ⟨_, run k off r1 r2, hpost⟩
            · cases h
          · cases h
        · cases h
      · cases h
    · cases h
theorem evStore_nopan {cx : Ctx} {t : TypeId} {x y v : AV} {fs : FS} {S : St} (h : evStore cx t x y fs = some (.pan v S)) : False := by
  unfold evStore at h
  repeat' split at h
  all_goals cases h

theorem evBox_run {F : Fix} {fs : FS} {G : Gh} {w : World} {i : Nat} {dst : Option Tmp} {ty : TypeId} {cs : List AV} {vs : Array Value} {v : AV} {b' : Nat → Nat × List AV} {S' : St} {fp : FP} (hp : Pre F fs G w) (hn : G.nu F.cx.dep (fs.c + i + 1) = none)
    (hr : VRL G cs vs.toList) (h1 : ∀ x ∈ vs.toList, oneV x = true) (h2 : ∀ x ∈ cs, x.isCell = true) (h : evBox F.cx i dst ty cs fs = some (.val v b' S' fp)) :
    ∃ G', Post F fs.c i G b' S' v G' (w.alloc (.cells vs ty)) (.pointer (some ⟨w.heap.size, 0, none⟩)) := by
  unfold evBox at h
  split at h
  · cases h
  · split at h
    · split at h
      · rename_i hs
        cases h
        exact box_heap hp hr h1 h2 hs
      · cases h
    · cases h
      exact box_local hp hn hr h1 h2
theorem evBox_nopan {cx : Ctx} {i : Nat} {dst : Option Tmp} {ty : TypeId} {cs : List AV} {v : AV} {fs : FS} {S : St} (h : evBox cx i dst ty cs fs = some (.pan v S)) : False := by
  unfold evBox at h
  repeat' split at h
  all_goals cases h

theorem goOp_val {S : St} {b : Nat → Nat × List AV} {x : Option AV} {v : AV} {b' : Nat → Nat × List AV} {S' : St} {fp : FP} (h : goOp S b x = some (.val v b' S' fp)) : x = some v ∧ b' = b ∧ S' = S := by
  unfold goOp at h
  split at h
  · cases h; exact ⟨rfl, rfl, rfl⟩
  · cases h
theorem goOp_nopan {S S' : St} {b : Nat → Nat × List AV} {x : Option AV} {v : AV} (h : goOp S b x = some (.pan v S')) : False := by
  unfold goOp at h
  split at h <;> cases h

theorem run_value {P : Program} {w w' : World} {s : Sem Value} {v : Value} (h : s.run P w = .ok v w') : (do pure (Next.value (← s)) : Sem Next).run P w = .ok (.value v) w' := by
  simp [h]
theorem run_skip {P : Program} {w w' : World} {s : Sem Unit} (h : s.run P w = .ok () w') : (do s; pure Next.skip : Sem Next).run P w = .ok .skip w' := by
  simp [h]

theorem rhoL_VRL {G : Gh} {t : Nat → AV} {a : Act} (h : ∀ x, VR G (t x) (a.tmps.getD x undef)) (l : Array Operand) : VRL G (rhoL t l) (l.map a.eval).toList := by
  unfold rhoL
  rw [Array.toList_map]
  exact VRL.map _ fun x _ => rho_VR h x

/-- what the whole of one operation is -/
def OpSound (F : Fix) (fs : FS) (G : Gh) (a : Act) (w : World) (i : Nat) (o : Oper) : OR → Prop
  | .val v b S _ => ∀ (next : Act → World → Prop) (Q : Exit → Act → World → Prop), (∀ G' w' v', Post F fs.c i G b S v G' w' v' → next (a.put o.dst v') w') → o.wp F.cx.P a w next Q
  | .pan v S => ∀ (next : Act → World → Prop) (Q : Exit → Act → World → Prop), (∀ G' w' v', PostP F G fs.b S v G' w' v' → Q (.panic [{ v := v', recovered := false }]) a w') → o.wp F.cx.P a w next Q

theorem OpSound.pure {F : Fix} {fs : FS} {G : Gh} {a : Act} {w : World} {i : Nat} {o : Oper} (hp : Pre F fs G w) {v : AV} {v' : Value} {fp : FP} (h : (execOp a.eval o).run F.cx.P w = .ok (.value v') w) (hv : VR G v v') : OpSound F fs G a w i o (.val v fs.b fs.S fp) :=
  fun _ _ hk => wp_value h (hk G w v' (Post.same hp hv))
theorem OpSound.go {F : Fix} {fs : FS} {G : Gh} {a : Act} {w : World} {i : Nat} {o : Oper} (hp : Pre F fs G w) {x : Option AV} {r : OR} (h : goOp fs.S fs.b x = some r) (hk : ∀ v, x = some v → ∃ v', (execOp a.eval o).run F.cx.P w = .ok (.value v') w ∧ VR G v v') :
    OpSound F fs G a w i o r := by
  cases r with
  | pan v S => exact (goOp_nopan h).elim
  | val v b S fp =>
    obtain ⟨e1, rfl, rfl⟩ := goOp_val h
    obtain ⟨v', h1, h2⟩ := hk v e1
    exact .pure hp h1 h2

theorem callee_sound {F : Fix} {call : Cal} {fs : FS} {G : Gh} {a : Act} {w : World} {i : Nat} {o : Oper} (hp : Pre F fs G w) (hnu : ∀ d v, d < F.cx.dep → G.nu d v = none) (hc : CalOK F.cx.P call F.cx.dep)
    {f : AV} {fv : Value} {args : List AV} {avs : Array Value} (hf : VR G f fv) (ha : VRL G args avs.toList) {r : OR} (h : evCallee call fs f args = some r)
    (hop : ∀ g first cap, fv = .func (.func g) first cap → (∃ fn, F.cx.P.funcs[g]? = some fn ∧ (fn.name == "runtime.NumGoroutine") = false ∧ fn.body.isSome = true) → (execOp a.eval o).run F.cx.P w = .ok (.enter g (first ++ avs ++ cap)) w) :
    OpSound F fs G a w i o r := by
  unfold evCallee at h
  split at h
  · rename_i g first cap
    cases hf with
    | fn _ _ _ fv cv h1 h2 =>
      have hargs : VRL G (first ++ (args ++ cap)) (fv ++ avs ++ cv).toList := by
        have := h1.append (ha.append h2)
        simpa [Array.toList_append, List.append_assoc] using this
      split at h
      · rename_i v S' hcall
        cases h
        obtain ⟨hfn, hcs⟩ := hc _ _ _ _ _ hcall
        have hrun := hop g fv cv rfl hfn
        intro next Q hk
        unfold Oper.wp
        rw [hrun]
        refine (hcs F.w0 F.B G w _ hp.inv hnu hargs).mono fun e w' ⟨G', i1, i2, i3, i4⟩ => ?_
        cases e with
        | returned v' => exact hk G' w' v' ⟨i4, i1, i2.le, hp.ext.trans F.ie i2, hp.loc.ext i2, fun _ _ h => absurd (congrFun (congrFun i3 _) _) h⟩
        | panicked ch => exact i4.elim
        | outgrown => exact i4.elim
      · rename_i v S' hcall
        cases h
        obtain ⟨hfn, hcs⟩ := hc _ _ _ _ _ hcall
        have hrun := hop g fv cv rfl hfn
        intro next Q hk
        unfold Oper.wp
        rw [hrun]
        refine (hcs F.w0 F.B G w _ hp.inv hnu hargs).mono fun e w' ⟨G', i1, i2, i3, i4⟩ => ?_
        cases e with
        | returned v' => exact i4.elim
        | panicked ch => obtain ⟨v', rfl, i4⟩ := i4; exact hk G' w' v' ⟨i4, i1, i2.le, hp.ext.trans F.ie i2, hp.loc.ext i2, i3⟩
        | outgrown => exact i4.elim
      · cases h
  · cases h

theorem VRL.two {G : Gh} {x y : AV} {l : List Value} (h : VRL G [x, y] l) : ∃ a b, l = [a, b] ∧ VR G x a ∧ VR G y b := by
  cases h with | cons _ a _ m h1 h2 => cases h2 with | cons _ b _ m h3 h4 => cases h4; exact ⟨a, b, rfl, h1, h3⟩
theorem arr_of_list {α : Type} {x : Array α} {l : List α} (h : x.toList = l) : x = l.toArray := by cases x; simp at h; rw [h]

theorem builtin_sound {F : Fix} {fs : FS} {G : Gh} {a : Act} {w : World} {i : Nat} {o : Oper} {bi : Builtin} {ts : Array TypeId} {rt : TypeId} {cs : Array Bool} {args : List AV} {avs : Array Value} (hp : Pre F fs G w) (ha : VRL G args avs.toList) {r : OR}
    (h : evBuiltin F.cx bi ts.toList args fs = some r) (hop : execOp a.eval o = builtin bi ts rt cs avs) : OpSound F fs G a w i o r := by
  unfold evBuiltin at h
  split at h
  · split at h
    · rename_i t tl x xs hts
      have ht : ts[0]? = some t := by rw [← Array.getElem?_toList, hts]; rfl
      refine .go hp h fun v hv => ?_
      obtain ⟨xv, hx1, hx2⟩ := ha.get (i := 0) (a := x) rfl
      obtain ⟨v', h1, h2⟩ := evLen_run (P := F.cx.P) (w := w) (u := rt) ht (l := avs) (by simpa using hx1) hx2 hv
      exact ⟨v', by rw [hop]; exact run_value h1, h2⟩
    · cases h
  · split at h
    · rename_i x y
      refine .go hp h fun v hv => ?_
      obtain ⟨p, q, e, hx, hy⟩ := ha.two
      have e' := arr_of_list e
      subst e'
      obtain ⟨v', h1, h2⟩ := evMin2_run (P := F.cx.P) (w := w) hx hy hv
      refine ⟨v', ?_, h2⟩
      rw [hop]
      refine run_value ?_
      simp [Builtin.min_, h1]
    · cases h
  · split at h
    · rename_i x y
      refine .go hp h fun v hv => ?_
      obtain ⟨p, q, e, hx, hy⟩ := ha.two
      have e' := arr_of_list e
      subst e'
      obtain ⟨v', h1, h2⟩ := evMax2_run (P := F.cx.P) (w := w) hx hy hv
      refine ⟨v', ?_, h2⟩
      rw [hop]
      refine run_value ?_
      simp [Builtin.max_, h1]
    · cases h
  · split at h
    · rename_i s x
      split at h
      · rename_i v S' hv
        cases h
        obtain ⟨p, q, e, hx, hy⟩ := ha.two
        have e' := arr_of_list e
        subst e'
        obtain ⟨G', w', v', h1, h2⟩ := evAppend_run (i := i) (rt := rt) hp hx hy hv
        intro next Q hk
        refine wp_value (v := v') ?_ (hk G' w' v' h2)
        rw [hop]
        exact run_value h1
      · cases h
    · cases h
  · cases h

theorem evOp_sound {F : Fix} {call : Cal} {fs : FS} {G : Gh} {a : Act} {w : World} {i : Nat} {o : Oper} (hp : Pre F fs G w) (htm : ∀ x, VR G (fs.t x) (a.tmps.getD x undef)) (hn : G.nu F.cx.dep (fs.c + i + 1) = none)
    (hnu : ∀ d v, d < F.cx.dep → G.nu d v = none) (hc : CalOK F.cx.P call F.cx.dep) {r : OR} (h : evOp F.cx call i o fs = some r) : OpSound F fs G a w i o r := by
  have R : ∀ x, VR G (rho fs.t x) (a.eval x) := rho_VR htm
  unfold evOp at h
  split at h
  · rename_i x hop; cases h; exact .pure hp (by simp [execOp, hop]) (R x)
  · rename_i x hop; cases h; exact .pure hp (by simp [execOp, hop]) (R x)
  · rename_i c x y hop
    split at h
    · rename_i q hq
      cases h
      have hb : a.eval c = .bool q := by have := R c; rw [hq] at this; exact this.inv_bool
      cases q with
      | true => exact .pure hp (v' := a.eval x) (by simp [execOp, hop, hb, asBool]) (by simpa using R x)
      | false => exact .pure hp (v' := a.eval y) (by simp [execOp, hop, hb, asBool]) (by simpa using R y)
    · cases h
  · rename_i ty hop
    split at h
    · rename_i z hz
      obtain ⟨ii, zv, z1, z2, z3, z4, z5, z6, z7, z8⟩ := zero_cells hz G
      cases r with
      | pan v S => exact (evBox_nopan h).elim
      | val v b S fp =>
        obtain ⟨G', hpost⟩ := evBox_run (ty := ty) hp hn z6 z7 z8 h
        intro next Q hk
        refine wp_value ?_ (hk G' _ _ hpost)
        simp [execOp, hop, Instr.alloc, zeroValue, typeInfo, z1, z2, newVar, newRow]
    · cases h
  · rename_i ty x hop
    split at h
    · rename_i cs hcs
      obtain ⟨n1, n2, n3⟩ := (R x).cells hcs
      cases r with
      | pan v S => exact (evBox_nopan h).elim
      | val v b S fp =>
        obtain ⟨G', hpost⟩ := evBox_run (ty := ty) hp hn n1 n2 n3 h
        intro next Q hk
        refine wp_value ?_ (hk G' _ _ hpost)
        simp [execOp, hop, Instr.box, newVar, newRow]
    · cases h
  · rename_i t parts hop
    refine .go hp h fun v hv => ?_
    obtain ⟨v', h1, h2⟩ := evBuild_run (P := F.cx.P) (w := w) (qs := parts.map fun p => (p.1, a.eval p.2)) (by rw [Array.toList_map]; exact PVR.of_map htm parts.toList) hv
    exact ⟨v', by simp only [execOp, hop]; exact run_value h1, h2⟩
  · rename_i t n parts hop
    cases r with
    | pan v S => exact (goOp_nopan h).elim
    | val v b S fp =>
      obtain ⟨e1, rfl, rfl⟩ := goOp_val h
      obtain ⟨G', w', v', h1, h2⟩ := evBuildSlice_run (i := i) (qs := parts.map fun p => (p.1, a.eval p.2)) hp (by rw [Array.toList_map]; exact PVR.of_map htm parts.toList) e1
      intro next Q hk
      exact wp_value (by simp only [execOp, hop]; exact run_value h1) (hk G' w' v' h2)
  · rename_i t x hop
    cases r with
    | pan v S => exact (evLoad_nopan h).elim
    | val v b S fp =>
      obtain ⟨rfl, rfl, v', h1, h2⟩ := evLoad_run hp (R x) h
      exact .pure hp (by simp only [execOp, hop]; exact run_value h1) h2
  · rename_i t x y hop
    cases r with
    | pan v S => exact (evStore_nopan h).elim
    | val v b S fp =>
      obtain ⟨w', h1, h2⟩ := evStore_run (i := i) hp (R x) (R y) h
      intro next Q hk
      exact wp_skipped (by simp only [execOp, hop]; exact run_skip h1) (hk G w' _ h2)
  · rename_i x hop
    have hr := R x
    split at h
    · rename_i cs e
      cases h
      rw [e] at hr
      obtain ⟨b, o', e2, hv⟩ := hr.inv_ref
      exact .pure hp (by simp [execOp, hop, e2]) (.ref _ _ _ hv)
    · rename_i p q s t e
      cases h
      rw [e] at hr
      obtain ⟨b, e2, hv⟩ := hr.inv_loc
      exact .pure hp (by simp [execOp, hop, e2]) (.loc _ _ _ _ _ hv)
    · rename_i p q e
      cases h
      rw [e] at hr
      obtain ⟨b, e2, hv⟩ := hr.inv_ptr
      exact .pure hp (by simp [execOp, hop, e2]) (.ptr _ _ _ hv)
    · cases h
  · rename_i op xt x y yt hop
    refine .go hp h fun v hv => ?_
    obtain ⟨v', h1, h2⟩ := evBin_run (P := F.cx.P) (w := w) x y (R x) (R y) hv
    exact ⟨v', by simp only [execOp, hop]; exact run_value h1, h2⟩
  · rename_i op xt x hop
    refine .go hp h fun v hv => ?_
    obtain ⟨v', h1, h2⟩ := evUn_run (P := F.cx.P) (w := w) (R x) hv
    exact ⟨v', by simp only [execOp, hop]; exact run_value h1, h2⟩
  · rename_i s d x hop
    refine .go hp h fun v hv => ?_
    obtain ⟨v', h1, h2⟩ := evConv_run hp.inv (R x) hv
    exact ⟨v', by simp only [execOp, hop]; exact run_value h1, h2⟩
  · rename_i t x hop
    split at h
    · rename_i hcq
      cases h
      refine .pure hp (v' := .iface t (a.eval x)) ?_ (.iface _ _ _ (R x))
      simp only [execOp, hop]
      refine run_value ?_
      unfold concQ at hcq
      split at hcq
      · cases hcq
      · cases hcq
      · rename_i d hne hd
        cases hu : F.cx.P.underlying t with
        | none => exact absurd hu hd
        | some d =>
          cases d <;> first | exact absurd hu (hne _) | simp [Instr.makeInterface, run_underlying' F.cx.P w t _ hu]
    · cases h
  · rename_i f first cap hop
    cases h
    refine .pure hp (v' := .func (.func f) (first.map a.eval) (cap.map a.eval)) ?_ (.fn _ _ _ _ _ (rhoL_VRL htm first) (rhoL_VRL htm cap))
    simp [execOp, hop, Instr.makeFunc]
  · rename_i t x lo hi hop
    refine .go hp h fun v hv => ?_
    have ov : ∀ o : Option Operand, OVR G (o.map (rho fs.t)) (o.map a.eval) := fun o => by cases o with | none => trivial | some z => exact R z
    obtain ⟨v', h1, h2⟩ := evSlice_run (P := F.cx.P) (w := w) (R x) (ov lo) (ov hi) hv
    exact ⟨v', by simp only [execOp, hop]; exact run_value h1, h2⟩
  · rename_i s x f hop
    refine .go hp h fun v hv => ?_
    obtain ⟨v', h1, h2⟩ := evFieldAddr_run (P := F.cx.P) (w := w) (R x) hv
    exact ⟨v', by simp only [execOp, hop]; exact run_value h1, h2⟩
  · rename_i t x f hop
    refine .go hp h fun v hv => ?_
    obtain ⟨v', h1, h2⟩ := evField_run (P := F.cx.P) (w := w) (R x) hv
    exact ⟨v', by simp only [execOp, hop]; exact run_value h1, h2⟩
  · rename_i t x ix hop
    refine .go hp h fun v hv => ?_
    obtain ⟨v', h1, h2⟩ := evIndexAddr_run (P := F.cx.P) (w := w) (R x) (R ix) hv
    exact ⟨v', by simp only [execOp, hop]; exact run_value h1, h2⟩
  · rename_i t x ix hop
    refine .go hp h fun v hv => ?_
    obtain ⟨v', h1, h2⟩ := evIndex_run (P := F.cx.P) (w := w) (R x) (R ix) hv
    exact ⟨v', by simp only [execOp, hop]; exact run_value h1, h2⟩
  · rename_i x k hop
    split at h
    · rename_i vs e
      refine .go hp h fun v hv => ?_
      have hr := R x
      rw [e] at hr
      cases hx : a.eval x with
      | tuple tv =>
        rw [hx] at hr
        cases hr with
        | tup _ _ hl =>
          obtain ⟨v', h1, h2⟩ := hl.get hv
          simp at h1
          exact ⟨v', by simp only [execOp, hop, hx]; exact run_value (by simp [Instr.extract, h1]), h2⟩
      | _ => rw [hx] at hr; cases hr
    · cases h
  · rename_i f args ts hop
    refine callee_sound hp hnu hc (R f) (rhoL_VRL htm args) h fun g first cap hfv ⟨fn, f1, f2, f3⟩ => ?_
    obtain ⟨body, hb⟩ := Option.isSome_iff_exists.1 f3
    have f2' : fn.name ≠ "runtime.NumGoroutine" := by simpa using f2
    simp [execOp, hop, resolve, hfv, Deferred.ofValue, invoke, callFunc, f1, f2', hb]
  · rename_i bi args ts hop
    obtain ⟨cs, hcs⟩ : ∃ cs, execOp a.eval o = builtin bi ts o.type cs (args.map a.eval) := ⟨_, by simp only [execOp, hop, resolve, pure_bind, invoke]; rfl⟩
    exact builtin_sound hp (rhoL_VRL htm args) h hcs
  · rename_i x hop
    split at h
    · rename_i t v e
      cases h
      have hr := R x
      rw [e] at hr
      intro next Q hk
      cases hx : a.eval x with
      | iface t' v' =>
        rw [hx] at hr
        unfold Oper.wp
        have : (execOp a.eval o).run F.cx.P w = .halt (.panic (.iface t' v')) w := by simp [execOp, hop, hx, Instr.panic]
        rw [this]
        exact hk G w _ ⟨hr, hp.inv, .refl G, hp.ext, hp.loc, rfl⟩
      | _ => rw [hx] at hr; cases hr
    · cases h
  · cases h
end Go.Proofs.Ytemggoaefohliaa.AE
