/- Joined: AeI, AeJ, AeK, AeL, AeM, AeN, AeO, AeP, AeQ. No condition beyond those of its lemmas. -/
import Derived.Test.YtemggoaefohliaaFwA
import Derived.Orders
import Derived.Deep.LoopGhost
import Derived.ChangeArms
import Derived.OpenShut
import Derived.Carry
import Derived.RowKit
/- One operation of the evaluator is the model's. No condition. -/
namespace Go.Proofs.Ytemggoaefohliaa.AE
set_option linter.unusedVariables false
set_option linter.unusedSimpArgs false
open Go Go.RowKit

def ResR (G : Gh) : Res → Ending → Prop
  | .ret v, .returned v' => VR G v v'
  | .pan v, .panicked ch => ∃ v', ch = [{ v := v', recovered := false }] ∧ VR G v v'
  | _, _ => False

/-- what is asked of the calls that an evaluation makes: frames below 'lim' are theirs -/
def CalOK (P : Program) (call : Cal) (lim : Nat) : Prop := ∀ f args S r S', call f args S = some (r, S') →
  (∃ fn, P.funcs[f]? = some fn ∧ (fn.name == "runtime.NumGoroutine") = false ∧ fn.body.isSome = true) ∧
  ∀ (w0 : World) (B : Nat) (G : Gh) (w : World) (vs : Array Value), Inv w0 B G S w → (∀ d v, d < lim → G.nu d v = none) → VRL G args vs.toList →
    Calls P f vs w fun e w' => ∃ G', Inv w0 B G' S' w' ∧ Ext G w G' w' ∧ G'.nu = G.nu ∧ ResR G' r e

structure PostP (F : Fix) (G : Gh) (b' : Nat → Nat × List AV) (S' : St) (v : AV) (G' : Gh) (w' : World) (v' : Value) : Prop where
  vr : VR G' v v'
  inv : Inv F.w0 F.B G' S' w'
  le : Gle G G'
  ext : Ext F.Ge F.we G' w'
  loc : LInv F.we.heap.size G' w' F.cx.dep b'
  nu : G'.nu = G.nu

theorem wp_value {P : Program} {o : Oper} {a : Act} {w w' : World} {v : Value} {next : Act → World → Prop} {Q : Exit → Act → World → Prop} (h : (execOp a.eval o).run P w = .ok (.value v) w') (hk : next (a.put o.dst v) w') : o.wp P a w next Q := by
  unfold Oper.wp; rw [h]; exact hk
theorem wp_skipped {P : Program} {o : Oper} {a : Act} {w w' : World} {next : Act → World → Prop} {Q : Exit → Act → World → Prop} (h : (execOp a.eval o).run P w = .ok .skip w') (hk : next (a.put o.dst (.tuple #[])) w') : o.wp P a w next Q := by
  unfold Oper.wp; rw [h]; exact hk

theorem evLoad_run {F : Fix} {fs : FS} {G : Gh} {w : World} {t : TypeId} {x v : AV} {xv : Value} {b' : Nat → Nat × List AV} {S' : St} {fp : FP} (hp : Pre F fs G w) (hx : VR G x xv) (h : evLoad F.cx t x fs = some (.val v b' S' fp)) :
    b' = fs.b ∧ S' = fs.S ∧ ∃ v', (Instr.loadAt t xv).run F.cx.P w = .ok v' w ∧ VR G v v' := by
  unfold evLoad at h
  split at h
  · cases h
  · rename_i hk
    have hu : (F.cx.P.underlying t).isSome := by
      cases hh : F.cx.P.underlying t with
      | none => simp [knownQ, hh] at hk
      | some _ => rfl
    split at h
    · rename_i cs
      split at h
      · rename_i r hr
        cases h
        obtain ⟨b, o, rfl, hv⟩ := hx.inv_ref
        obtain ⟨v', h1, h2⟩ := rdc_load (w := w) hu (Cells.of_imm hp.inv hv) hr
        exact ⟨rfl, rfl, v', by simp [Instr.loadAt, Instr.sureAddr, h1], h2⟩
      · cases h
    · rename_i dep d ver off
      split at h
      · rename_i hc
        split at h
        · rename_i r hr
          cases h
          obtain ⟨rfl, hver, h0⟩ := hc
          obtain ⟨k, rfl, hk'⟩ := hx.inv_loc
          obtain ⟨k', vs, ty, k1, k2, k3, k4, _⟩ := hp.loc.box d (by rw [hver]; exact h0)
          rw [hver, hk'] at k1; cases k1
          obtain ⟨v', h1, h2⟩ := rdc_load (w := w) hu (Cells.of_heap k3 k4 off) hr
          exact ⟨rfl, rfl, v', by simp [Instr.loadAt, Instr.sureAddr, h1], h2⟩
        · cases h
      · cases h
    · rename_i id off
      split at h
      · rename_i bx hbx
        split at h
        · rename_i r hr
          cases h
          obtain ⟨k, rfl, hk'⟩ := hx.inv_ptr
          obtain ⟨k', vs, k1, k2, k3, k4, _⟩ := hp.inv.box id bx hbx
          rw [hk'] at k1; cases k1
          obtain ⟨v', h1, h2⟩ := rdc_load (w := w) hu (Cells.of_heap k3 k4 off) hr
          exact ⟨rfl, rfl, v', by simp [Instr.loadAt, Instr.sureAddr, h1], h2⟩
        · cases h
      · cases h
    · cases h
theorem evLoad_nopan {cx : Ctx} {t : TypeId} {x v : AV} {fs : FS} {S : St} (h : evLoad cx t x fs = some (.pan v S)) : False := by
  unfold evLoad at h
  repeat' split at h
  all_goals cases h

theorem evStore_run {F : Fix} {fs : FS} {G : Gh} {w : World} {i : Nat} {t : TypeId} {x y v : AV} {xv yv : Value} {b' : Nat → Nat × List AV} {S' : St} {fp : FP} (hp : Pre F fs G w) (hx : VR G x xv) (hy : VR G y yv) (h : evStore F.cx t x y fs = some (.val v b' S' fp)) :
    ∃ w', (Instr.storeAt t xv yv).run F.cx.P w = .ok () w' ∧ Post F fs.c i G b' S' v G w' (.tuple #[]) := by
  unfold evStore at h
  split at h
  · cases h
  · rename_i new hnew
    obtain ⟨n1, n2, n3⟩ := hy.cells hnew
    have hl := n1.length
    simp at hl
    split at h
    · rename_i hc
      obtain ⟨ii, hii⟩ := Option.isSome_iff_exists.1 hc.2
      have hsz : ¬ (yv.cells.size ≠ F.cx.P.cellsOf t) := by rw [hl, hc.1]; simp
      have run : ∀ b o, (∀ j, j < yv.cells.toList.length → (w.cell? ⟨b, o + j, none⟩).isSome = true) → (∀ j, j < yv.cells.toList.length → w.frozen? ⟨b, o + j, none⟩ = false) →
          (Instr.storeAt t (.pointer (some ⟨b, o, none⟩)) yv).run F.cx.P w = .ok () (setL b o yv.cells.toList w) := fun b o r1 r2 => by
        have := run_storeCells_at F.cx.P b o yv.cells.toList 0 w n2 (by simpa using r1) (by simpa using r2)
        simp only [Nat.add_zero] at this
        simp only [Instr.storeAt, Instr.sureAddr, storeVar, Sem.run_bind, Sem.run_pure, Result.andThen_ok, run_sizeOf' F.cx.P w t ii hii, hsz, if_false, this, ne_eq]
      split at h
      · rename_i dep d ver off
        split at h
        · rename_i hd
          split at h
          · rename_i cs hw
            cases h
            obtain ⟨rfl, hver, h0⟩ := hd
            obtain ⟨k, rfl, hk'⟩ := hx.inv_loc
            obtain ⟨r1, r2, hpost⟩ := store_local (i := i) hp hver h0 hk' hw n1 n2 n3
            exact ⟨_, run k off r1 r2, hpost⟩
          · cases h
        · cases h
      · rename_i id off
        split at h
        · rename_i bx hbx
          split at h
          · rename_i cs hw
            split at h
            · rename_i hse
              cases h
              obtain ⟨k, rfl, hk'⟩ := hx.inv_ptr
              obtain ⟨r1, r2, hpost⟩ := store_heap (i := i) hp hbx hk' hw hse n1 n2 n3
              exact ⟨_, run k off r1 r2, hpost⟩
            · cases h
          · cases h
        · cases h
      · cases h
    · cases h
theorem evStore_nopan {cx : Ctx} {t : TypeId} {x y v : AV} {fs : FS} {S : St} (h : evStore cx t x y fs = some (.pan v S)) : False := by
  unfold evStore at h
  repeat' split at h
  all_goals cases h

theorem evBox_run {F : Fix} {fs : FS} {G : Gh} {w : World} {i : Nat} {dst : Option Tmp} {ty : TypeId} {cs : List AV} {vs : Array Value} {v : AV} {b' : Nat → Nat × List AV} {S' : St} {fp : FP} (hp : Pre F fs G w) (hn : G.nu F.cx.dep (fs.c + i + 1) = none)
    (hr : VRL G cs vs.toList) (h1 : ∀ x ∈ vs.toList, oneV x = true) (h2 : ∀ x ∈ cs, x.isCell = true) (h : evBox F.cx i dst ty cs fs = some (.val v b' S' fp)) :
    ∃ G', Post F fs.c i G b' S' v G' (w.alloc (.cells vs ty)) (.pointer (some ⟨w.heap.size, 0, none⟩)) := by
  unfold evBox at h
  split at h
  · cases h
  · split at h
    · split at h
      · rename_i hs
        cases h
        exact box_heap hp hr h1 h2 hs
      · cases h
    · cases h
      exact box_local hp hn hr h1 h2
theorem evBox_nopan {cx : Ctx} {i : Nat} {dst : Option Tmp} {ty : TypeId} {cs : List AV} {v : AV} {fs : FS} {S : St} (h : evBox cx i dst ty cs fs = some (.pan v S)) : False := by
  unfold evBox at h
  repeat' split at h
  all_goals cases h

theorem goOp_val {S : St} {b : Nat → Nat × List AV} {x : Option AV} {v : AV} {b' : Nat → Nat × List AV} {S' : St} {fp : FP} (h : goOp S b x = some (.val v b' S' fp)) : x = some v ∧ b' = b ∧ S' = S := by
  unfold goOp at h
  split at h
  · cases h; exact ⟨rfl, rfl, rfl⟩
  · cases h
theorem goOp_nopan {S S' : St} {b : Nat → Nat × List AV} {x : Option AV} {v : AV} (h : goOp S b x = some (.pan v S')) : False := by
  unfold goOp at h
  split at h <;> cases h

theorem run_value {P : Program} {w w' : World} {s : Sem Value} {v : Value} (h : s.run P w = .ok v w') : (do pure (Next.value (← s)) : Sem Next).run P w = .ok (.value v) w' := by
  simp [h]
theorem run_skip {P : Program} {w w' : World} {s : Sem Unit} (h : s.run P w = .ok () w') : (do s; pure Next.skip : Sem Next).run P w = .ok .skip w' := by
  simp [h]

theorem rhoL_VRL {G : Gh} {t : Nat → AV} {a : Act} (h : ∀ x, VR G (t x) (a.tmps.getD x undef)) (l : Array Operand) : VRL G (rhoL t l) (l.map a.eval).toList := by
  unfold rhoL
  rw [Array.toList_map]
  exact VRL.map _ fun x _ => rho_VR h x

/-- what the whole of one operation is -/
def OpSound (F : Fix) (fs : FS) (G : Gh) (a : Act) (w : World) (i : Nat) (o : Oper) : OR → Prop
  | .val v b S _ => ∀ (next : Act → World → Prop) (Q : Exit → Act → World → Prop), (∀ G' w' v', Post F fs.c i G b S v G' w' v' → next (a.put o.dst v') w') → o.wp F.cx.P a w next Q
  | .pan v S => ∀ (next : Act → World → Prop) (Q : Exit → Act → World → Prop), (∀ G' w' v', PostP F G fs.b S v G' w' v' → Q (.panic [{ v := v', recovered := false }]) a w') → o.wp F.cx.P a w next Q

theorem OpSound.pure {F : Fix} {fs : FS} {G : Gh} {a : Act} {w : World} {i : Nat} {o : Oper} (hp : Pre F fs G w) {v : AV} {v' : Value} {fp : FP} (h : (execOp a.eval o).run F.cx.P w = .ok (.value v') w) (hv : VR G v v') : OpSound F fs G a w i o (.val v fs.b fs.S fp) :=
  fun _ _ hk => wp_value h (hk G w v' (Post.same hp hv))
theorem OpSound.go {F : Fix} {fs : FS} {G : Gh} {a : Act} {w : World} {i : Nat} {o : Oper} (hp : Pre F fs G w) {x : Option AV} {r : OR} (h : goOp fs.S fs.b x = some r) (hk : ∀ v, x = some v → ∃ v', (execOp a.eval o).run F.cx.P w = .ok (.value v') w ∧ VR G v v') :
    OpSound F fs G a w i o r := by
  cases r with
  | pan v S => exact (goOp_nopan h).elim
  | val v b S fp =>
    obtain ⟨e1, rfl, rfl⟩ := goOp_val h
    obtain ⟨v', h1, h2⟩ := hk v e1
    exact .pure hp h1 h2

theorem callee_sound {F : Fix} {call : Cal} {fs : FS} {G : Gh} {a : Act} {w : World} {i : Nat} {o : Oper} (hp : Pre F fs G w) (hnu : ∀ d v, d < F.cx.dep → G.nu d v = none) (hc : CalOK F.cx.P call F.cx.dep)
    {f : AV} {fv : Value} {args : List AV} {avs : Array Value} (hf : VR G f fv) (ha : VRL G args avs.toList) {r : OR} (h : evCallee call fs f args = some r)
    (hop : ∀ g first cap, fv = .func (.func g) first cap → (∃ fn, F.cx.P.funcs[g]? = some fn ∧ (fn.name == "runtime.NumGoroutine") = false ∧ fn.body.isSome = true) → (execOp a.eval o).run F.cx.P w = .ok (.enter g (first ++ avs ++ cap)) w) :
    OpSound F fs G a w i o r := by
  unfold evCallee at h
  split at h
  · rename_i g first cap
    cases hf with
    | fn _ _ _ fv cv h1 h2 =>
      have hargs : VRL G (first ++ (args ++ cap)) (fv ++ avs ++ cv).toList := by
        have := h1.append (ha.append h2)
        simpa [Array.toList_append, List.append_assoc] using this
      split at h
      · rename_i v S' hcall
        cases h
        obtain ⟨hfn, hcs⟩ := hc _ _ _ _ _ hcall
        have hrun := hop g fv cv rfl hfn
        intro next Q hk
        unfold Oper.wp
        rw [hrun]
        refine (hcs F.w0 F.B G w _ hp.inv hnu hargs).mono fun e w' ⟨G', i1, i2, i3, i4⟩ => ?_
        cases e with
        | returned v' => exact hk G' w' v' ⟨i4, i1, i2.le, hp.ext.trans F.ie i2, hp.loc.ext i2, fun _ _ h => absurd (congrFun (congrFun i3 _) _) h⟩
        | panicked ch => exact i4.elim
        | outgrown => exact i4.elim
      · rename_i v S' hcall
        cases h
        obtain ⟨hfn, hcs⟩ := hc _ _ _ _ _ hcall
        have hrun := hop g fv cv rfl hfn
        intro next Q hk
        unfold Oper.wp
        rw [hrun]
        refine (hcs F.w0 F.B G w _ hp.inv hnu hargs).mono fun e w' ⟨G', i1, i2, i3, i4⟩ => ?_
        cases e with
        | returned v' => exact i4.elim
        | panicked ch => obtain ⟨v', rfl, i4⟩ := i4; exact hk G' w' v' ⟨i4, i1, i2.le, hp.ext.trans F.ie i2, hp.loc.ext i2, i3⟩
        | outgrown => exact i4.elim
      · cases h
  · cases h

theorem VRL.two {G : Gh} {x y : AV} {l : List Value} (h : VRL G [x, y] l) : ∃ a b, l = [a, b] ∧ VR G x a ∧ VR G y b := by
  cases h with | cons _ a _ m h1 h2 => cases h2 with | cons _ b _ m h3 h4 => cases h4; exact ⟨a, b, rfl, h1, h3⟩
theorem arr_of_list {α : Type} {x : Array α} {l : List α} (h : x.toList = l) : x = l.toArray := by cases x; simp at h; rw [h]

theorem builtin_sound {F : Fix} {fs : FS} {G : Gh} {a : Act} {w : World} {i : Nat} {o : Oper} {bi : Builtin} {ts : Array TypeId} {rt : TypeId} {cs : Array Bool} {args : List AV} {avs : Array Value} (hp : Pre F fs G w) (ha : VRL G args avs.toList) {r : OR}
    (h : evBuiltin F.cx bi ts.toList args fs = some r) (hop : execOp a.eval o = builtin bi ts rt cs avs) : OpSound F fs G a w i o r := by
  unfold evBuiltin at h
  split at h
  · split at h
    · rename_i t tl x xs hts
      have ht : ts[0]? = some t := by rw [← Array.getElem?_toList, hts]; rfl
      refine .go hp h fun v hv => ?_
      obtain ⟨xv, hx1, hx2⟩ := ha.get (i := 0) (a := x) rfl
      obtain ⟨v', h1, h2⟩ := evLen_run (P := F.cx.P) (w := w) (u := rt) ht (l := avs) (by simpa using hx1) hx2 hv
      exact ⟨v', by rw [hop]; exact run_value h1, h2⟩
    · cases h
  · split at h
    · rename_i x y
      refine .go hp h fun v hv => ?_
      obtain ⟨p, q, e, hx, hy⟩ := ha.two
      have e' := arr_of_list e
      subst e'
      obtain ⟨v', h1, h2⟩ := evMin2_run (P := F.cx.P) (w := w) hx hy hv
      refine ⟨v', ?_, h2⟩
      rw [hop]
      refine run_value ?_
      simp [Builtin.min_, h1]
    · cases h
  · split at h
    · rename_i x y
      refine .go hp h fun v hv => ?_
      obtain ⟨p, q, e, hx, hy⟩ := ha.two
      have e' := arr_of_list e
      subst e'
      obtain ⟨v', h1, h2⟩ := evMax2_run (P := F.cx.P) (w := w) hx hy hv
      refine ⟨v', ?_, h2⟩
      rw [hop]
      refine run_value ?_
      simp [Builtin.max_, h1]
    · cases h
  · split at h
    · rename_i s x
      split at h
      · rename_i v S' hv
        cases h
        obtain ⟨p, q, e, hx, hy⟩ := ha.two
        have e' := arr_of_list e
        subst e'
        obtain ⟨G', w', v', h1, h2⟩ := evAppend_run (i := i) (rt := rt) hp hx hy hv
        intro next Q hk
        refine wp_value (v := v') ?_ (hk G' w' v' h2)
        rw [hop]
        exact run_value h1
      · cases h
    · cases h
  · cases h

theorem evOp_sound {F : Fix} {call : Cal} {fs : FS} {G : Gh} {a : Act} {w : World} {i : Nat} {o : Oper} (hp : Pre F fs G w) (htm : ∀ x, VR G (fs.t x) (a.tmps.getD x undef)) (hn : G.nu F.cx.dep (fs.c + i + 1) = none)
    (hnu : ∀ d v, d < F.cx.dep → G.nu d v = none) (hc : CalOK F.cx.P call F.cx.dep) {r : OR} (h : evOp F.cx call i o fs = some r) : OpSound F fs G a w i o r := by
  have R : ∀ x, VR G (rho fs.t x) (a.eval x) := rho_VR htm
  unfold evOp at h
  split at h
  · rename_i x hop; cases h; exact .pure hp (by simp [execOp, hop]) (R x)
  · rename_i x hop; cases h; exact .pure hp (by simp [execOp, hop]) (R x)
  · rename_i c x y hop
    split at h
    · rename_i q hq
      cases h
      have hb : a.eval c = .bool q := by have := R c; rw [hq] at this; exact this.inv_bool
      cases q with
      | true => exact .pure hp (v' := a.eval x) (by simp [execOp, hop, hb, asBool]) (by simpa using R x)
      | false => exact .pure hp (v' := a.eval y) (by simp [execOp, hop, hb, asBool]) (by simpa using R y)
    · cases h
  · rename_i ty hop
    split at h
    · rename_i z hz
      obtain ⟨ii, zv, z1, z2, z3, z4, z5, z6, z7, z8⟩ := zero_cells hz G
      cases r with
      | pan v S => exact (evBox_nopan h).elim
      | val v b S fp =>
        obtain ⟨G', hpost⟩ := evBox_run (ty := ty) hp hn z6 z7 z8 h
        intro next Q hk
        refine wp_value ?_ (hk G' _ _ hpost)
        simp [execOp, hop, Instr.alloc, zeroValue, typeInfo, z1, z2, newVar, newRow]
    · cases h
  · rename_i ty x hop
    split at h
    · rename_i cs hcs
      obtain ⟨n1, n2, n3⟩ := (R x).cells hcs
      cases r with
      | pan v S => exact (evBox_nopan h).elim
      | val v b S fp =>
        obtain ⟨G', hpost⟩ := evBox_run (ty := ty) hp hn n1 n2 n3 h
        intro next Q hk
        refine wp_value ?_ (hk G' _ _ hpost)
        simp [execOp, hop, Instr.box, newVar, newRow]
    · cases h
  · rename_i t parts hop
    refine .go hp h fun v hv => ?_
    obtain ⟨v', h1, h2⟩ := evBuild_run (P := F.cx.P) (w := w) (qs := parts.map fun p => (p.1, a.eval p.2)) (by rw [Array.toList_map]; exact PVR.of_map htm parts.toList) hv
    exact ⟨v', by simp only [execOp, hop]; exact run_value h1, h2⟩
  · rename_i t n parts hop
    cases r with
    | pan v S => exact (goOp_nopan h).elim
    | val v b S fp =>
      obtain ⟨e1, rfl, rfl⟩ := goOp_val h
      obtain ⟨G', w', v', h1, h2⟩ := evBuildSlice_run (i := i) (qs := parts.map fun p => (p.1, a.eval p.2)) hp (by rw [Array.toList_map]; exact PVR.of_map htm parts.toList) e1
      intro next Q hk
      exact wp_value (by simp only [execOp, hop]; exact run_value h1) (hk G' w' v' h2)
  · rename_i t x hop
    cases r with
    | pan v S => exact (evLoad_nopan h).elim
    | val v b S fp =>
      obtain ⟨rfl, rfl, v', h1, h2⟩ := evLoad_run hp (R x) h
      exact .pure hp (by simp only [execOp, hop]; exact run_value h1) h2
  · rename_i t x y hop
    cases r with
    | pan v S => exact (evStore_nopan h).elim
    | val v b S fp =>
      obtain ⟨w', h1, h2⟩ := evStore_run (i := i) hp (R x) (R y) h
      intro next Q hk
      exact wp_skipped (by simp only [execOp, hop]; exact run_skip h1) (hk G w' _ h2)
  · rename_i x hop
    have hr := R x
    split at h
    · rename_i cs e
      cases h
      rw [e] at hr
      obtain ⟨b, o', e2, hv⟩ := hr.inv_ref
      exact .pure hp (by simp [execOp, hop, e2]) (.ref _ _ _ hv)
    · rename_i p q s t e
      cases h
      rw [e] at hr
      obtain ⟨b, e2, hv⟩ := hr.inv_loc
      exact .pure hp (by simp [execOp, hop, e2]) (.loc _ _ _ _ _ hv)
    · rename_i p q e
      cases h
      rw [e] at hr
      obtain ⟨b, e2, hv⟩ := hr.inv_ptr
      exact .pure hp (by simp [execOp, hop, e2]) (.ptr _ _ _ hv)
    · cases h
  · rename_i op xt x y yt hop
    refine .go hp h fun v hv => ?_
    obtain ⟨v', h1, h2⟩ := evBin_run (P := F.cx.P) (w := w) x y (R x) (R y) hv
    exact ⟨v', by simp only [execOp, hop]; exact run_value h1, h2⟩
  · rename_i op xt x hop
    refine .go hp h fun v hv => ?_
    obtain ⟨v', h1, h2⟩ := evUn_run (P := F.cx.P) (w := w) (R x) hv
    exact ⟨v', by simp only [execOp, hop]; exact run_value h1, h2⟩
  · rename_i s d x hop
    refine .go hp h fun v hv => ?_
    obtain ⟨v', h1, h2⟩ := evConv_run hp.inv (R x) hv
    exact ⟨v', by simp only [execOp, hop]; exact run_value h1, h2⟩
  · rename_i t x hop
    split at h
    · rename_i hcq
      cases h
      refine .pure hp (v' := .iface t (a.eval x)) ?_ (.iface _ _ _ (R x))
      simp only [execOp, hop]
      refine run_value ?_
      unfold concQ at hcq
      split at hcq
      · cases hcq
      · cases hcq
      · rename_i d hne hd
        cases hu : F.cx.P.underlying t with
        | none => exact absurd hu hd
        | some d =>
          cases d <;> first | exact absurd hu (hne _) | simp [Instr.makeInterface, run_underlying' F.cx.P w t _ hu]
    · cases h
  · rename_i f first cap hop
    cases h
    refine .pure hp (v' := .func (.func f) (first.map a.eval) (cap.map a.eval)) ?_ (.fn _ _ _ _ _ (rhoL_VRL htm first) (rhoL_VRL htm cap))
    simp [execOp, hop, Instr.makeFunc]
  · rename_i t x lo hi hop
    refine .go hp h fun v hv => ?_
    have ov : ∀ o : Option Operand, OVR G (o.map (rho fs.t)) (o.map a.eval) := fun o => by cases o with | none => trivial | some z => exact R z
    obtain ⟨v', h1, h2⟩ := evSlice_run (P := F.cx.P) (w := w) (R x) (ov lo) (ov hi) hv
    exact ⟨v', by simp only [execOp, hop]; exact run_value h1, h2⟩
  · rename_i s x f hop
    refine .go hp h fun v hv => ?_
    obtain ⟨v', h1, h2⟩ := evFieldAddr_run (P := F.cx.P) (w := w) (R x) hv
    exact ⟨v', by simp only [execOp, hop]; exact run_value h1, h2⟩
  · rename_i t x f hop
    refine .go hp h fun v hv => ?_
    obtain ⟨v', h1, h2⟩ := evField_run (P := F.cx.P) (w := w) (R x) hv
    exact ⟨v', by simp only [execOp, hop]; exact run_value h1, h2⟩
  · rename_i t x ix hop
    refine .go hp h fun v hv => ?_
    obtain ⟨v', h1, h2⟩ := evIndexAddr_run (P := F.cx.P) (w := w) (R x) (R ix) hv
    exact ⟨v', by simp only [execOp, hop]; exact run_value h1, h2⟩
  · rename_i t x ix hop
    refine .go hp h fun v hv => ?_
    obtain ⟨v', h1, h2⟩ := evIndex_run (P := F.cx.P) (w := w) (R x) (R ix) hv
    exact ⟨v', by simp only [execOp, hop]; exact run_value h1, h2⟩
  · rename_i x k hop
    split at h
    · rename_i vs e
      refine .go hp h fun v hv => ?_
      have hr := R x
      rw [e] at hr
      cases hx : a.eval x with
      | tuple tv =>
        rw [hx] at hr
        cases hr with
        | tup _ _ hl =>
          obtain ⟨v', h1, h2⟩ := hl.get hv
          simp at h1
          exact ⟨v', by simp only [execOp, hop, hx]; exact run_value (by simp [Instr.extract, h1]), h2⟩
      | _ => rw [hx] at hr; cases hr
    · cases h
  · rename_i f args ts hop
    refine callee_sound hp hnu hc (R f) (rhoL_VRL htm args) h fun g first cap hfv ⟨fn, f1, f2, f3⟩ => ?_
    obtain ⟨body, hb⟩ := Option.isSome_iff_exists.1 f3
    have f2' : fn.name ≠ "runtime.NumGoroutine" := by simpa using f2
    simp [execOp, hop, resolve, hfv, Deferred.ofValue, invoke, callFunc, f1, f2', hb]
  · rename_i bi args ts hop
    obtain ⟨cs, hcs⟩ : ∃ cs, execOp a.eval o = builtin bi ts o.type cs (args.map a.eval) := ⟨_, by simp only [execOp, hop, resolve, pure_bind, invoke]; rfl⟩
    exact builtin_sound hp (rhoL_VRL htm args) h hcs
  · rename_i x hop
    split at h
    · rename_i t v e
      cases h
      have hr := R x
      rw [e] at hr
      intro next Q hk
      cases hx : a.eval x with
      | iface t' v' =>
        rw [hx] at hr
        unfold Oper.wp
        have : (execOp a.eval o).run F.cx.P w = .halt (.panic (.iface t' v')) w := by simp [execOp, hop, hx, Instr.panic]
        rw [this]
        exact hk G w _ ⟨hr, hp.inv, .refl G, hp.ext, hp.loc, rfl⟩
      | _ => rw [hx] at hr; cases hr
    · cases h
  · cases h
end Go.Proofs.Ytemggoaefohliaa.AE

/- Steps and rows of operations: the evaluator's are the model's. No condition. -/
namespace Go.Proofs.Ytemggoaefohliaa.AE
set_option linter.unusedVariables false
set_option linter.unusedSimpArgs false
open Go Go.RowKit

structure FR (F : Fix) (nt : Nat) (D : Nat → Prop) (fs : FS) (G : Gh) (a : Act) (w : World) : Prop where
  pre : Pre F fs G w
  tm : ∀ x, VR G (fs.t x) (a.tmps.getD x undef)
  nt : a.tmps.size = nt
  df : a.defers = []
  nul : ∀ d v, d < F.cx.dep → G.nu d v = none
  nud : ∀ v, G.nu F.cx.dep v ≠ none → v ≤ fs.c ∨ ∃ j, D j ∧ v = fs.c + j + 1
  nue : ∀ d v, d ≠ F.cx.dep → G.nu d v = F.Ge.nu d v

theorem put_VR {G : Gh} {t : Nat → AV} {a : Act} {dst : Option Tmp} {v : AV} {v' : Value} (h : ∀ x, VR G (t x) (a.tmps.getD x undef)) (hv : VR G v v') (hd : ∀ d, dst = some d → d < a.tmps.size) : ∀ x, VR G (putA t dst v x) ((a.put dst v').tmps.getD x undef) := by
  intro x
  cases dst with
  | none => exact h x
  | some d =>
    have hlt := hd d rfl
    show VR G (upd d v t x) ((a.tmps.setIfInBounds d v').getD x undef)
    unfold upd
    split
    · rename_i hx
      subst hx
      simpa [Array.getD_eq_getD_getElem?, hlt] using hv
    · rename_i hx
      have := h x
      rw [Array.getD_eq_getD_getElem?] at this ⊢
      rw [Array.getElem?_setIfInBounds_ne (Ne.symm hx)]
      exact this
theorem put_size (a : Act) (dst : Option Tmp) (v : Value) : (a.put dst v).tmps.size = a.tmps.size := by
  cases dst <;> simp [Act.put]
theorem put_defers' (a : Act) (dst : Option Tmp) (v : Value) : (a.put dst v).defers = a.defers := by
  cases dst <;> rfl

theorem FR.put {F : Fix} {nt : Nat} {D : Nat → Prop} {fs : FS} {G G' : Gh} {a : Act} {w w' : World} (h : FR F nt D fs G a w) {i : Nat} {dst : Option Tmp} {v : AV} {v' : Value} {b : Nat → Nat × List AV} {S : St}
    (hd : ∀ d, dst = some d → d < nt) (hp : Post F fs.c i G b S v G' w' v') : FR F nt (fun j => D j ∨ j = i) ⟨putA fs.t dst v, b, fs.c, S⟩ G' (a.put dst v') w' where
  pre := ⟨hp.inv, hp.ext, hp.loc⟩
  tm := put_VR (fun x => (h.tm x).mono hp.le) hp.vr (by rw [h.nt]; exact hd)
  nt := by rw [put_size]; exact h.nt
  df := by rw [put_defers']; exact h.df
  nul d x hx := by
    cases hn : G'.nu d x with
    | none => rfl
    | some k =>
      have h1 := h.nul d x hx
      obtain ⟨e, _⟩ := hp.nu d x (by rw [hn, h1]; simp)
      omega
  nud x hx := by
    by_cases hc : G'.nu F.cx.dep x = G.nu F.cx.dep x
    · rw [hc] at hx
      rcases h.nud x hx with h' | ⟨j, h1, h2⟩
      · exact .inl h'
      · exact .inr ⟨j, .inl h1, h2⟩
    · exact .inr ⟨i, .inr rfl, (hp.nu _ _ hc).2⟩
  nue d x hd := by
    by_cases hc : G'.nu d x = G.nu d x
    · rw [hc]; exact h.nue d x hd
    · exact absurd (hp.nu _ _ hc).1 hd

theorem FR.drew {F : Fix} {nt : Nat} {D : Nat → Prop} {fs : FS} {G : Gh} {a : Act} {w : World} (h : FR F nt D fs G a w) : FR F nt D fs G a w.drew := ⟨h.pre.drew, h.tm, h.nt, h.df, h.nul, h.nud, h.nue⟩
theorem FR.weak {F : Fix} {nt : Nat} {D D' : Nat → Prop} {fs : FS} {G : Gh} {a : Act} {w : World} (h : FR F nt D fs G a w) (hD : ∀ j, D j → D' j) : FR F nt D' fs G a w :=
  ⟨h.pre, h.tm, h.nt, h.df, h.nul, fun v hv => (h.nud v hv).imp id fun ⟨j, h1, h2⟩ => ⟨j, hD j h1, h2⟩, h.nue⟩

theorem wantedA_spec {gd : Option (Nat × Bool)} {o : Oper} {ops : Array Oper} {t : Nat → AV} {G : Gh} {a : Act} {q : Bool} (hg : o.guard = gd) (htm : ∀ x, VR G (t x) (a.tmps.getD x undef)) (h : wantedA gd ops t = some q) : Region.wanted o (yielded ops a.tmps) = q := by
  unfold wantedA at h
  unfold Region.wanted
  rw [hg]
  split at h
  · cases h; rfl
  · rename_i j want
    split at h
    · rename_i d hd
      have ht := htm d
      split at h
      · rename_i b hb
        cases h
        rw [hb] at ht
        have := ht.inv_bool
        rw [Array.getD_eq_getD_getElem?] at this
        cases hh : a.tmps[d]? with
        | none => rw [hh] at this; simp [undef] at this
        | some v =>
          rw [hh] at this
          simp at this
          subst this
          simp [yielded, hd, hh]
      · rename_i hb
        cases h
        rw [hb] at ht
        have hu : a.tmps.getD d undef = .tuple #[] := by
          generalize a.tmps.getD d undef = z at ht
          cases ht; rfl
        rw [Array.getD_eq_getD_getElem?] at hu
        cases hh : a.tmps[d]? with
        | none => simp [yielded, hd, hh]
        | some v =>
          rw [hh] at hu
          simp at hu
          subst hu
          simp [yielded, hd, hh]
      · cases h
    · cases h

/-- what one step of a region gives -/
def StepOK (F : Fix) (nt : Nat) (D : Nat → Prop) (i : Nat) (P : Program) (ops : Array Oper) (a : Act) (w : World) : OutS → Prop
  | .ok fs' _ => ∀ (K : Act → World → Prop) (Q : Exit → Act → World → Prop), (∀ G' a' w', FR F nt (fun j => D j ∨ j = i) fs' G' a' w' → K a' w') → wpOp P ops Q i K a w
  | .pan v fs' => ∀ (K : Act → World → Prop) (Q : Exit → Act → World → Prop), (∀ G' w' v', FR F nt D fs' G' a w' → VR G' v v' → Q (.panic [{ v := v', recovered := false }]) a w') → wpOp P ops Q i K a w

theorem stepA_sound {F : Fix} {nt : Nat} {D : Nat → Prop} {call : Cal} {fs : FS} {G : Gh} {a : Act} {w : World} {ops : Array Oper} {i : Nat} {o : Oper} (hi : ops[i]? = some o) (h : FR F nt D fs G a w) (hD : ¬ D i)
    (hd : ∀ d, o.dst = some d → d < nt) (hc : CalOK F.cx.P call F.cx.dep) {r : OutS} (hs : stepA F.cx call ops i o fs = some r) : StepOK F nt D i F.cx.P ops a w r := by
  have hn : G.nu F.cx.dep (fs.c + i + 1) = none := by
    cases hn : G.nu F.cx.dep (fs.c + i + 1) with
    | none => rfl
    | some k =>
      rcases h.nud (fs.c + i + 1) (by rw [hn]; simp) with h' | ⟨j, h1, h2⟩
      · omega
      · have : j = i := by omega
        subst this
        exact absurd h1 hD
  unfold stepA at hs
  split at hs
  · rename_i hw
    have hw' := wantedA_spec rfl h.tm hw
    split at hs
    · rename_i v b S fp hev
      cases hs
      intro K Q hk
      unfold wpOp
      simp only [hi, hw', if_true]
      exact .inl (evOp_sound h.pre h.tm hn h.nul hc hev K Q fun G' w' v' hp => hk G' _ w' (h.put hd hp))
    · rename_i v S hev
      cases hs
      intro K Q hk
      unfold wpOp
      simp only [hi, hw', if_true]
      exact .inl (evOp_sound h.pre h.tm hn h.nul hc hev K Q fun G' w' v' hp => hk G' w' v'
        ⟨⟨hp.inv, hp.ext, hp.loc⟩, fun x => (h.tm x).mono hp.le, h.nt, h.df, fun d x hx => by rw [hp.nu]; exact h.nul d x hx, fun x hx => h.nud x (by rw [← hp.nu]; exact hx), fun d x hx => by rw [hp.nu]; exact h.nue d x hx⟩ hp.vr)
    · cases hs
  · rename_i hw
    have hw' := wantedA_spec rfl h.tm hw
    cases hs
    intro K Q hk
    unfold wpOp
    simp only [hi, hw', Bool.false_eq_true, if_false]
    exact hk G _ w (h.put (i := i) (v := .undef) (v' := undef) hd (Post.same h.pre .undef))
  · cases hs

/-- what a row of operations gives -/
def SeqOK (F : Fix) (nt : Nat) (D : Nat → Prop) (l : List Nat) (P : Program) (ops : Array Oper) (a : Act) (w : World) : OutS → Prop
  | .ok fs' _ => ∀ (Q : Exit → Act → World → Prop), (∀ G' a' w', FR F nt (fun j => D j ∨ j ∈ l) fs' G' a' w' → Q .normal a' w') → wpOps P ops Q l a w
  | .pan v fs' => ∀ (Q : Exit → Act → World → Prop), (∀ D' G' a' w' v', FR F nt D' fs' G' a' w' → VR G' v v' → Q (.panic [{ v := v', recovered := false }]) a' w') → wpOps P ops Q l a w

theorem seqA_sound {F : Fix} {nt : Nat} {call : Cal} {ops : Array Oper} (hd : ∀ (i : Nat) o, ops[i]? = some o → ∀ d, o.dst = some d → d < nt) (hc : CalOK F.cx.P call F.cx.dep) : ∀ (l : List Nat) (D : Nat → Prop) (fs : FS) (G : Gh) (a : Act) (w : World), l.Nodup → (∀ i ∈ l, ¬ D i) →
    FR F nt D fs G a w → ∀ r, seqA F.cx call ops l fs = some r → SeqOK F nt D l F.cx.P ops a w r
  | [], D, fs, G, a, w, _, _, h, r, hs => by
    cases hs
    intro Q hq
    exact hq G a w (h.weak fun j hj => .inl hj)
  | i :: l, D, fs, G, a, w, hn, hD, h, r, hs => by
    simp only [seqA] at hs
    split at hs
    · cases hs
    · rename_i o hi
      have hnd := List.nodup_cons.1 hn
      cases hst : stepA F.cx call ops i o fs with
      | none => rw [hst] at hs; cases hs
      | some s =>
        rw [hst] at hs
        have hok := stepA_sound hi h (hD i (by simp)) (hd i o hi) hc hst
        cases s with
        | ok fs' fp =>
          simp only at hs
          have ih := fun G' a' w' h' => seqA_sound hd hc l (fun j => D j ∨ j = i) fs' G' a' w' hnd.2 (fun j hj hj' => by
            rcases hj' with h1 | rfl
            · exact hD j (by simp [hj]) h1
            · exact hnd.1 hj) h' r hs
          cases r with
          | ok fs'' fp' =>
            intro Q hq
            rw [wpOps_cons]
            refine hok _ Q fun G' a' w' h' => ih G' a' w' h' Q fun G'' a'' w'' h'' => hq G'' a'' w'' (h''.weak fun j hj => ?_)
            rcases hj with (h1 | rfl) | h1
            · exact .inl h1
            · exact .inr (by simp)
            · exact .inr (by simp [h1])
          | pan v fs'' =>
            intro Q hq
            rw [wpOps_cons]
            exact hok _ Q fun G' a' w' h' => ih G' a' w' h' Q hq
        | pan v fs' =>
          cases hs
          intro Q hq
          rw [wpOps_cons]
          exact hok _ Q fun G' w' v' h' hv => hq D G' a w' v' h' hv

theorem lexA_seqA {cx : Ctx} {call : Cal} {ops : Array Oper} : ∀ (l : List Oper) (i : Nat) (fs : FS), (∀ j, l[j]? = ops[i + j]?) → lexA cx call ops i l fs = seqA cx call ops (List.range' i l.length) fs
  | [], i, fs, _ => rfl
  | o :: l, i, fs, h => by
    have h0 : ops[i]? = some o := by simpa using (h 0).symm
    rw [lexA, List.length_cons, List.range'_succ, seqA, h0]
    simp only
    have ih := fun fs' => lexA_seqA (cx := cx) (call := call) l (i + 1) fs' fun j => by
      have := h (j + 1)
      simpa [Nat.add_assoc, Nat.add_comm 1 j] using this
    cases stepA cx call ops i o fs with
    | none => rfl
    | some s => cases s with
      | ok fs' fp => exact ih fs'
      | pan v fs' => rfl
theorem lexA_range {cx : Ctx} {call : Cal} {ops : Array Oper} (fs : FS) : lexA cx call ops 0 ops.toList fs = seqA cx call ops (List.range ops.size) fs := by
  rw [lexA_seqA ops.toList 0 fs (by simp), List.range_eq_range']
  simp
end Go.Proofs.Ytemggoaefohliaa.AE

/- A region that draws its order: one evaluation, in the order of the text, serves every order. Condition of the check 'drawOk': what is in no order touches nothing in common. -/
namespace Go.Proofs.Ytemggoaefohliaa.AE
set_option linter.unusedVariables false
set_option linter.unusedSimpArgs false
open Go Go.RowKit

def quietK (o : Oper) : Bool :=
  match o.op with
  | .load .. => false | .store .. => false | .alloc _ => false | .box .. => false
  | .call ⟨.value _, _, _⟩ => false | .call ⟨.builtin .append, _, _⟩ => false
  | _ => true

/-- what one operation has to do with the world, and with what it does not -/
theorem evOp_local {cx : Ctx} {call : Cal} {i : Nat} {o : Oper} {s u : FS} {v : AV} {b : Nat → Nat × List AV} {S : St} {fp : FP} (h : evOp cx call i o s = some (.val v b S fp)) (hc : u.c = s.c)
    (ht : ∀ x ∈ o.op.operands, rho u.t x = rho s.t x) (hb : ∀ d, fp = .rl d ∨ fp = .wl d → u.b d = s.b d) (hS : fp = .rh ∨ fp = .wh → u.S = s.S) :
    (∃ b' S', evOp cx call i o u = some (.val v b' S' fp) ∧ (∀ e, fp = .wl e → b' e = b e) ∧ (∀ e, fp ≠ .wl e → b' e = u.b e) ∧ (fp = .wh → S' = S) ∧ (fp ≠ .wh → S' = u.S)) ∧
    (∀ e, fp ≠ .wl e → b e = s.b e) ∧ (fp ≠ .wh → S = s.S) ∧ (quietK o = true → fp = .non) := by
  have key : ∀ (x : Option AV), goOp s.S s.b x = some (.val v b S fp) → (x = some v ∧ b = s.b ∧ S = s.S ∧ fp = .non) := fun x hx => by
    unfold goOp at hx
    split at hx
    · cases hx; exact ⟨rfl, rfl, rfl, rfl⟩
    · cases hx
  have fin : ∀ (x : Option AV), goOp s.S s.b x = some (.val v b S fp) → evOp cx call i o u = goOp u.S u.b x →
      (∃ b' S', evOp cx call i o u = some (.val v b' S' fp) ∧ (∀ e, fp = .wl e → b' e = b e) ∧ (∀ e, fp ≠ .wl e → b' e = u.b e) ∧ (fp = .wh → S' = S) ∧ (fp ≠ .wh → S' = u.S)) ∧
      (∀ e, fp ≠ .wl e → b e = s.b e) ∧ (fp ≠ .wh → S = s.S) ∧ (quietK o = true → fp = .non) := fun x hx hu => by
    obtain ⟨rfl, rfl, rfl, rfl⟩ := key x hx
    exact ⟨⟨u.b, u.S, hu, (fun e h => by cases h), fun _ _ => rfl, (fun h => by cases h), fun _ => rfl⟩, fun _ _ => rfl, fun _ => rfl, fun _ => rfl⟩
  unfold evOp at h
  split at h
  · rename_i x hop; exact fin (some _) h (by simp [evOp, hop, goOp, ht x (by simp [hop, Op.operands])])
  · rename_i x hop; exact fin (some _) h (by simp [evOp, hop, goOp, ht x (by simp [hop, Op.operands])])
  · rename_i c x y hop
    split at h
    · rename_i q hq
      refine fin (some _) h ?_
      simp [evOp, hop, goOp, ht c (by simp [hop, Op.operands]), ht x (by simp [hop, Op.operands]), ht y (by simp [hop, Op.operands]), hq]
    · cases h
  · rename_i ty hop
    split at h
    · rename_i z hz
      unfold evBox at h
      split at h
      · cases h
      · rename_i d hd
        split at h
        · rename_i hesc
          split at h
          · rename_i hse
            cases h
            have hS' := hS (.inr rfl)
            refine ⟨⟨u.b, _, by simp [evOp, hop, hz, evBox, hd, hesc, hse, hS'], (fun e h => by cases h), fun _ _ => rfl, fun _ => rfl, fun h => absurd rfl h⟩, fun _ _ => rfl, fun h => absurd rfl h, fun h => by simp [quietK, hop] at h⟩
          · cases h
        · rename_i hesc
          cases h
          refine ⟨⟨upd d (s.c + i + 1, z) u.b, u.S, by simp [evOp, hop, hz, evBox, hd, hesc, hc], fun e h => ?_, fun e h => ?_, (fun h => by cases h), fun _ => rfl⟩, fun e h => ?_, fun _ => rfl, fun h => by simp [quietK, hop] at h⟩
          · cases h; simp [upd]
          · have : e ≠ d := fun h' => h (by rw [h'])
            simp [upd, this]
          · have : e ≠ d := fun h' => h (by rw [h'])
            simp [upd, this]
    · cases h
  · rename_i ty x hop
    have hx := ht x (by simp [hop, Op.operands])
    split at h
    · rename_i z hz
      unfold evBox at h
      split at h
      · cases h
      · rename_i d hd
        split at h
        · rename_i hesc
          split at h
          · rename_i hse
            cases h
            have hS' := hS (.inr rfl)
            refine ⟨⟨u.b, _, by simp [evOp, hop, hx, hz, evBox, hd, hesc, hse, hS'], (fun e h => by cases h), fun _ _ => rfl, fun _ => rfl, fun h => absurd rfl h⟩, fun _ _ => rfl, fun h => absurd rfl h, fun h => by simp [quietK, hop] at h⟩
          · cases h
        · rename_i hesc
          cases h
          refine ⟨⟨upd d (s.c + i + 1, z) u.b, u.S, by simp [evOp, hop, hx, hz, evBox, hd, hesc, hc], fun e h => ?_, fun e h => ?_, (fun h => by cases h), fun _ => rfl⟩, fun e h => ?_, fun _ => rfl, fun h => by simp [quietK, hop] at h⟩
          · cases h; simp [upd]
          · have : e ≠ d := fun h' => h (by rw [h'])
            simp [upd, this]
          · have : e ≠ d := fun h' => h (by rw [h'])
            simp [upd, this]
    · cases h
  · rename_i t parts hop
    refine fin _ h ?_
    have : (parts.toList.map fun p => (p.1, rho u.t p.2)) = parts.toList.map fun p => (p.1, rho s.t p.2) :=
      List.map_congr_left fun p hp => by rw [ht p.2 (by simp only [hop, Op.operands]; simp; exact ⟨p.1, by simpa using hp⟩)]
    simp [evOp, hop, this]
  · rename_i t n parts hop
    refine fin _ h ?_
    have : (parts.toList.map fun p => (p.1, rho u.t p.2)) = parts.toList.map fun p => (p.1, rho s.t p.2) :=
      List.map_congr_left fun p hp => by rw [ht p.2 (by simp only [hop, Op.operands]; simp; exact ⟨p.1, by simpa using hp⟩)]
    simp [evOp, hop, this]
  · rename_i t x hop
    have hx := ht x (by simp [hop, Op.operands])
    have hkn : knownQ cx.P t ≠ false := by
      intro h0; simp [evLoad, h0] at h
    unfold evLoad at h
    split at h
    · cases h
    · split at h
      · rename_i cs hcs
        split at h
        · rename_i r hr
          cases h
          exact ⟨⟨u.b, u.S, by simp [evOp, hop, hx, hcs, evLoad, hkn, hr], (fun e h => by cases h), fun _ _ => rfl, (fun h => by cases h), fun _ => rfl⟩, fun _ _ => rfl, fun _ => rfl, fun _ => rfl⟩
        · cases h
      · rename_i dep d ver off hcs
        split at h
        · rename_i hcond
          split at h
          · rename_i r hr
            cases h
            have hb' := hb d (.inl rfl)
            exact ⟨⟨u.b, u.S, by simp [evOp, hop, hx, hcs, evLoad, hkn, hb', hcond, hr], (fun e h => by cases h), fun _ _ => rfl, (fun h => by cases h), fun _ => rfl⟩, fun _ _ => rfl, fun _ => rfl, fun h => by simp [quietK, hop] at h⟩
          · cases h
        · cases h
      · rename_i id off hcs
        split at h
        · rename_i bx hbx
          split at h
          · rename_i r hr
            cases h
            have hS' := hS (.inl rfl)
            exact ⟨⟨u.b, u.S, by simp [evOp, hop, hx, hcs, evLoad, hkn, hS', hbx, hr], (fun e h => by cases h), fun _ _ => rfl, (fun h => by cases h), fun _ => rfl⟩, fun _ _ => rfl, fun _ => rfl, fun h => by simp [quietK, hop] at h⟩
          · cases h
        · cases h
      · cases h
  · rename_i t x y hop
    have hx := ht x (by simp [hop, Op.operands])
    have hy := ht y (by simp [hop, Op.operands])
    unfold evStore at h
    split at h
    · cases h
    · rename_i new hnew
      split at h
      · rename_i hcond
        split at h
        · rename_i dep d ver off hcs
          split at h
          · rename_i hd
            split at h
            · rename_i cs hw
              cases h
              have hb' := hb d (.inr rfl)
              refine ⟨⟨upd d (ver, cs) u.b, u.S, by simp [evOp, hop, hx, hy, hcs, evStore, hnew, hcond, hb', hd, hw], fun e h => ?_, fun e h => ?_, (fun h => by cases h), fun _ => rfl⟩, fun e h => ?_, fun _ => rfl, fun h => by simp [quietK, hop] at h⟩
              · cases h; simp [upd]
              · have : e ≠ d := fun h' => h (by rw [h'])
                simp [upd, this]
              · have : e ≠ d := fun h' => h (by rw [h'])
                simp [upd, this]
            · cases h
          · cases h
        · rename_i id off hcs
          split at h
          · rename_i bx hbx
            split at h
            · rename_i cs hw
              split at h
              · rename_i hse
                cases h
                have hS' := hS (.inr rfl)
                refine ⟨⟨u.b, _, by simp [evOp, hop, hx, hy, hcs, evStore, hnew, hcond, hS', hbx, hw, hse], (fun e h => by cases h), fun _ _ => rfl, fun _ => rfl, fun h => absurd rfl h⟩, fun _ _ => rfl, fun h => absurd rfl h, fun h => by simp [quietK, hop] at h⟩
              · cases h
            · cases h
          · cases h
        · cases h
      · cases h
  · rename_i x hop
    have hx := ht x (by simp [hop, Op.operands])
    split at h
    · rename_i e; exact fin (some _) h (by simp [evOp, hop, goOp, hx, e])
    · rename_i e; exact fin (some _) h (by simp [evOp, hop, goOp, hx, e])
    · rename_i e; exact fin (some _) h (by simp [evOp, hop, goOp, hx, e])
    · cases h
  · rename_i op xt x y yt hop
    exact fin _ h (by simp [evOp, hop, ht x (by simp [hop, Op.operands]), ht y (by simp [hop, Op.operands])])
  · rename_i op xt x hop
    exact fin _ h (by simp [evOp, hop, ht x (by simp [hop, Op.operands])])
  · rename_i p q x hop
    exact fin _ h (by simp [evOp, hop, ht x (by simp [hop, Op.operands])])
  · rename_i t x hop
    split at h
    · rename_i hcq; exact fin (some _) h (by simp [evOp, hop, goOp, hcq, ht x (by simp [hop, Op.operands])])
    · cases h
  · rename_i f first cap hop
    have e1 : rhoL u.t first = rhoL s.t first := List.map_congr_left fun x hx => ht x (by simp only [hop, Op.operands]; simp at hx ⊢; exact .inl hx)
    have e2 : rhoL u.t cap = rhoL s.t cap := List.map_congr_left fun x hx => ht x (by simp only [hop, Op.operands]; simp at hx ⊢; exact .inr hx)
    exact fin (some _) h (by simp [evOp, hop, goOp, e1, e2])
  · rename_i t x lo hi hop
    have ov : ∀ z : Option Operand, (∀ y, z = some y → y ∈ o.op.operands) → z.map (rho u.t) = z.map (rho s.t) := fun z hz => by
      cases z with
      | none => rfl
      | some y => simp [ht y (hz y rfl)]
    have e1 := ov lo fun y hy => by subst hy; simp [hop, Op.operands]
    have e2 := ov hi fun y hy => by subst hy; simp [hop, Op.operands]
    exact fin _ h (by simp [evOp, hop, ht x (by simp [hop, Op.operands]), e1, e2])
  · rename_i p x f hop
    exact fin _ h (by simp [evOp, hop, ht x (by simp [hop, Op.operands])])
  · rename_i p x f hop
    exact fin _ h (by simp [evOp, hop, ht x (by simp [hop, Op.operands])])
  · rename_i p x y hop
    exact fin _ h (by simp [evOp, hop, ht x (by simp [hop, Op.operands]), ht y (by simp [hop, Op.operands])])
  · rename_i p x y hop
    exact fin _ h (by simp [evOp, hop, ht x (by simp [hop, Op.operands]), ht y (by simp [hop, Op.operands])])
  · rename_i x k hop
    split at h
    · rename_i e; exact fin _ h (by simp [evOp, hop, ht x (by simp [hop, Op.operands]), e])
    · cases h
  · rename_i f args ts hop
    have e1 : rhoL u.t args = rhoL s.t args := List.map_congr_left fun x hx => ht x (by simp only [hop, Op.operands, Call.operands]; simp at hx ⊢; exact .inr hx)
    have e2 := ht f (by simp [hop, Op.operands, Call.operands])
    unfold evCallee at h
    split at h
    · rename_i g first cap hf
      split at h
      · rename_i r S' hcall
        cases h
        have hS' := hS (.inr rfl)
        refine ⟨⟨u.b, _, by simp [evOp, hop, e1, e2, hf, evCallee, hS', hcall], (fun e h => by cases h), fun _ _ => rfl, fun _ => rfl, fun h => absurd rfl h⟩, fun _ _ => rfl, fun h => absurd rfl h, fun h => by simp [quietK, hop] at h⟩
      · cases h
      · cases h
    · cases h
  · rename_i bi args ts hop
    have e1 : rhoL u.t args = rhoL s.t args := List.map_congr_left fun x hx => ht x (by simp only [hop, Op.operands, Call.operands]; simp at hx ⊢; exact hx)
    unfold evBuiltin at h
    split at h
    · split at h
      · rename_i e3 e4
        exact fin _ h (by simp [evOp, hop, e1, evBuiltin, e3, e4])
      · cases h
    · split at h
      · rename_i e4
        exact fin _ h (by simp [evOp, hop, e1, evBuiltin, e4])
      · cases h
    · split at h
      · rename_i e4
        exact fin _ h (by simp [evOp, hop, e1, evBuiltin, e4])
      · cases h
    · split at h
      · rename_i p q e4
        split at h
        · rename_i r S' hap
          cases h
          have hS' := hS (.inr rfl)
          refine ⟨⟨u.b, _, by simp [evOp, hop, e1, evBuiltin, e4, hS', hap], (fun e h => by cases h), fun _ _ => rfl, fun _ => rfl, fun h => absurd rfl h⟩, fun _ _ => rfl, fun h => absurd rfl h, fun h => by simp [quietK, hop] at h⟩
        · cases h
      · cases h
    · cases h
  · rename_i x hop
    split at h
    · cases h
    · cases h
  · cases h
end Go.Proofs.Ytemggoaefohliaa.AE

/- A region that draws its order: one evaluation, in the order of the text, serves every order. Condition of the check 'drawOk': what is in no order touches nothing in common. -/
namespace Go.Proofs.Ytemggoaefohliaa.AE
set_option linter.unusedVariables false
set_option linter.unusedSimpArgs false
open Go Go.RowKit

theorem stepA_local {cx : Ctx} {call : Cal} {ops : Array Oper} {i : Nat} {o : Oper} {s u s' : FS} {fp : FP} (h : stepA cx call ops i o s = some (.ok s' fp)) (hc : u.c = s.c) (ht : ∀ x ∈ o.looksAt ops, u.t x = s.t x)
    (hb : ∀ d, fp = .rl d ∨ fp = .wl d → u.b d = s.b d) (hS : fp = .rh ∨ fp = .wh → u.S = s.S) :
    ∃ v, s'.t = putA s.t o.dst v ∧ s'.c = s.c ∧ (∀ e, fp ≠ .wl e → s'.b e = s.b e) ∧ (fp ≠ .wh → s'.S = s.S) ∧ (quietK o = true → fp = .non) ∧
      ∃ u', stepA cx call ops i o u = some (.ok u' fp) ∧ u'.t = putA u.t o.dst v ∧ u'.c = u.c ∧ (∀ e, fp = .wl e → u'.b e = s'.b e) ∧ (∀ e, fp ≠ .wl e → u'.b e = u.b e) ∧ (fp = .wh → u'.S = s'.S) ∧ (fp ≠ .wh → u'.S = u.S) := by
  have hops : ∀ x ∈ o.op.operands, rho u.t x = rho s.t x := fun x hx => by
    cases x with
    | tmp y =>
      refine ht y ?_
      unfold Oper.looksAt
      refine List.mem_append_left _ (List.mem_filterMap.2 ⟨.tmp y, by simpa using hx, rfl⟩)
    | _ => rfl
  have hw : wantedA o.guard ops u.t = wantedA o.guard ops s.t := by
    unfold wantedA
    cases hg : o.guard with
    | none => rfl
    | some p =>
      obtain ⟨j, want⟩ := p
      simp only
      cases hd : (ops[j]?).bind (·.dst) with
      | none => rfl
      | some d =>
        simp only
        rw [ht d (by unfold Oper.looksAt; refine List.mem_append_right _ ?_; rw [hg]; simp [hd])]
  unfold stepA at h
  split at h
  · rename_i hwant
    split at h
    · rename_i v b S fp' hev
      cases h
      obtain ⟨⟨b', S', e1, e2, e3, e4, e5⟩, f1, f2, f3⟩ := evOp_local hev hc hops hb hS
      refine ⟨v, rfl, rfl, f1, f2, f3, ⟨putA u.t o.dst v, b', u.c, S'⟩, ?_, rfl, rfl, e2, e3, e4, e5⟩
      unfold stepA
      simp only [hw, hwant, e1]
    · cases h
    · cases h
  · rename_i hwant
    cases h
    refine ⟨.undef, rfl, rfl, fun _ _ => rfl, fun _ => rfl, fun _ => rfl, ⟨putA u.t o.dst .undef, u.b, u.c, u.S⟩, ?_, rfl, rfl, (fun e h => by cases h), fun _ _ => rfl, (fun h => by cases h), fun _ => rfl⟩
    unfold stepA
    simp only [hw, hwant]
  · cases h

/-! ### the check -/
def ordB (ops : Array Oper) (B : Array Nat) (i j : Nat) : Bool :=
  match ops[i]? with
  | some o => o.after.any fun e => Region.binds .any e && (e.on == j || (decide (j < e.on) && (B.getD e.on 0).testBit j))
  | none => false
def pairOk (ps : List (Nat × Nat)) (ops : Array Oper) (B : Array Nat) (i j : Nat) : Bool :=
  if (B.getD i 0).testBit j then ordB ops B i j
  else match ops[j]?, ops[i]? with
    | some x, some y => Oper.apart ops x y && Oper.apart ops y x && (quietK x || quietK y || ps.contains (j, i))
    | _, _ => false
def edgesOk (ops : Array Oper) (i : Nat) : Bool :=
  match ops[i]? with
  | some o => o.after.all fun e => !Region.binds .any e || decide (e.on < i)
  | none => false
def drawOk (ops : Array Oper) (ps : List (Nat × Nat)) : Bool :=
  (List.range ops.size).all fun i => edgesOk ops i && (List.range i).all fun j => pairOk ps ops (Region.before ops) i j

structure Drawn (ops : Array Oper) (ps : List (Nat × Nat)) (B : Array Nat) : Prop where
  edge : ∀ (i : Nat) o, ops[i]? = some o → ∀ e ∈ o.after, Region.binds .any e = true → e.on < i
  pair : ∀ i j, j < i → i < ops.size → pairOk ps ops B i j = true
theorem drawOk_spec {ops : Array Oper} {ps : List (Nat × Nat)} (h : drawOk ops ps = true) : Drawn ops ps (Region.before ops) := by
  unfold drawOk at h
  simp only [List.all_eq_true, List.mem_range, Bool.and_eq_true] at h
  refine ⟨fun i o ho e he hb => ?_, fun i j hj hi => (h i hi).2 j hj⟩
  have hi : i < ops.size := (Array.getElem?_eq_some_iff.1 ho).1
  have h1 := (h i hi).1
  unfold edgesOk at h1
  simp only [ho] at h1
  have h2 := (Array.all_eq_true'.1 h1) e he
  simpa [hb] using h2

/-- listed operations: with what stands ahead of each -/
def Closed (ops : Array Oper) (L : Nat → Prop) : Prop := ∀ (i : Nat) o, ops[i]? = some o → L i → ∀ e ∈ o.after, Region.binds .any e = true → L e.on
theorem Closed.bit {ops : Array Oper} {ps : List (Nat × Nat)} {B : Array Nat} (hd : Drawn ops ps B) {L : Nat → Prop} (hc : Closed ops L) : ∀ (n i j : Nat), i ≤ n → i < ops.size → j < i → (B.getD i 0).testBit j = true → (∀ o, ops[i]? = some o → ∀ e ∈ o.after, Region.binds .any e = true → L e.on) → L j := by
  intro n
  induction n with
  | zero => intro i j hi _ hj; omega
  | succ n ih =>
    intro i j hi hlt hj hbit hL
    have hp := hd.pair i j hj hlt
    unfold pairOk at hp
    rw [if_pos hbit] at hp
    unfold ordB at hp
    split at hp
    · rename_i o ho
      obtain ⟨e, he, hcond⟩ := Array.any_eq_true'.1 hp
      simp only [Bool.and_eq_true, Bool.or_eq_true, beq_iff_eq, decide_eq_true_eq] at hcond
      obtain ⟨hb, hcase⟩ := hcond
      have hLe := hL o ho e he hb
      rcases hcase with rfl | ⟨h1, h2⟩
      · exact hLe
      · have hei := hd.edge i o ho e he hb
        exact ih e.on j (by omega) (by omega) h1 h2 fun o' ho' e' he' hb' => hc e.on o' ho' hLe e' he' hb'
    · cases hp

/-! ### the states on the way -/
theorem lexF_trace {cx : Ctx} {call : Cal} {ops : Array Oper} : ∀ (l : List Oper) (i : Nat) (fs : FS) (acc : List FP) (fs' : FS) (fps : List FP), lexF cx call ops i l fs acc = some (fs', fps) →
    ∃ (st : Nat → FS) (fp : Nat → FP), st i = fs ∧ st (i + l.length) = fs' ∧ fps = acc ++ (List.range' i l.length).map fp ∧ ∀ (k : Nat) o, l[k]? = some o → stepA cx call ops (i + k) o (st (i + k)) = some (.ok (st (i + k + 1)) (fp (i + k)))
  | [], i, fs, acc, fs', fps, h => by
    cases h
    exact ⟨fun _ => fs, fun _ => .non, rfl, rfl, by simp, by simp⟩
  | o :: l, i, fs, acc, fs', fps, h => by
    simp only [lexF] at h
    split at h
    · rename_i fs1 fp1 hs
      obtain ⟨st, fp, h1, h2, h3, h4⟩ := lexF_trace l (i + 1) fs1 (acc ++ [fp1]) fs' fps h
      refine ⟨fun n => if n = i then fs else st n, fun n => if n = i then fp1 else fp n, by simp, ?_, ?_, fun k o' hk => ?_⟩
      · have : i + (l.length + 1) ≠ i := by omega
        simp only [List.length_cons, this, if_false]
        rw [← h2]; congr 1; omega
      · rw [h3, List.length_cons, List.range'_succ, List.map_cons, if_pos rfl, List.append_assoc]
        congr 1
        show fp1 :: _ = fp1 :: _
        congr 1
        refine List.map_congr_left fun n hn => ?_
        obtain ⟨m, _, rfl⟩ := List.mem_range'.1 hn
        rw [if_neg (by omega)]
      · cases k with
        | zero =>
          simp at hk
          subst hk
          simp only [Nat.add_zero, if_true, if_neg (show i + 1 ≠ i by omega), h1, hs]
        | succ k =>
          have := h4 k o' (by simpa using hk)
          have e1 : i + (k + 1) ≠ i := by omega
          have e2 : i + (k + 1) + 1 ≠ i := by omega
          simp only [e1, e2, if_false]
          rw [show i + (k + 1) = i + 1 + k by omega]
          exact this
    · cases h

open Classical in
/-- the value behind the last of those that p picks -/
noncomputable def lastv {α : Type} (p : Nat → Prop) (f : Nat → α) : Nat → α
  | 0 => f 0
  | k + 1 => if p k then f (k + 1) else lastv p f k
theorem lastv_eq {α : Type} {p W : Nat → Prop} {f : Nat → α} {m i : Nat} (hi : i ≤ m) (hconst : ∀ k, k < m → ¬ W k → f (k + 1) = f k) (hb : ∀ k, k < i → W k → p k) (ha : ∀ k, i ≤ k → k < m → ¬ p k) : lastv p f m = f i := by
  have up : ∀ k, k ≤ i → lastv p f k = f k := by
    intro k
    induction k with
    | zero => intro _; rfl
    | succ k ih =>
      intro hk
      unfold lastv
      split
      · rfl
      · rename_i hp
        rw [ih (by omega), hconst k (by omega) fun hw => hp (hb k (by omega) hw)]
  have down : ∀ k, i ≤ k → k ≤ m → lastv p f k = lastv p f i := by
    intro k
    induction k with
    | zero => intro h _; rw [Nat.le_zero.1 h]
    | succ k ih =>
      intro h1 h2
      rcases Nat.eq_or_lt_of_le h1 with h | h
      · rw [h]
      · rw [← ih (by omega) (by omega)]
        rw [lastv, if_neg (ha k (by omega) (by omega))]
  rw [down m hi (Nat.le_refl _), up i (Nat.le_refl _)]
theorem lastv_congr {α : Type} {p q : Nat → Prop} {f : Nat → α} {m : Nat} (h : ∀ k, k < m → (p k ↔ q k)) : lastv p f m = lastv q f m := by
  induction m with
  | zero => rfl
  | succ m ih =>
    unfold lastv
    rw [ih fun k hk => h k (by omega)]
    by_cases hp : p m
    · rw [if_pos hp, if_pos ((h m (by omega)).1 hp)]
    · rw [if_neg hp, if_neg fun hq => hp ((h m (by omega)).2 hq)]

/-- the frame when just those of L have been done -/
noncomputable def stateAt (ops : Array Oper) (st : Nat → FS) (fp : Nat → FP) (L : Nat → Prop) : FS where
  t x := lastv (fun k => L k ∧ (ops[k]?).bind (·.dst) = some x) (fun n => (st n).t x) ops.size
  b d := lastv (fun k => L k ∧ fp k = .wl d) (fun n => (st n).b d) ops.size
  c := (st 0).c
  S := lastv (fun k => L k ∧ fp k = .wh) (fun n => (st n).S) ops.size

theorem looksAt_apart {ops : Array Oper} {x y : Oper} (h : Oper.apart ops x y = true) {d : Tmp} (hd : x.dst = some d) : d ∉ y.looksAt ops ∧ y.dst ≠ some d := by
  unfold Oper.apart at h
  rw [hd] at h
  simp only [Bool.and_eq_true, Bool.not_eq_true', bne_iff_ne, ne_eq] at h
  refine ⟨fun hm => ?_, h.1.2⟩
  have := h.1.1
  rw [List.contains_iff_mem.2 hm] at this
  cases this

theorem noClash_spec {fps : List FP} {ps : List (Nat × Nat)} (h : noClash fps ps = true) {i j : Nat} (hm : (i, j) ∈ ps) : ∃ a b, fps[i]? = some a ∧ fps[j]? = some b ∧ FP.clash a b = false := by
  induction ps with
  | nil => cases hm
  | cons p ps ih =>
    obtain ⟨x, y⟩ := p
    simp only [noClash, Bool.and_eq_true] at h
    rcases List.mem_cons.1 hm with e | e
    · cases e
      have := h.1
      split at this
      · rename_i a b e1 e2
        exact ⟨a, b, e1, e2, by simpa using this⟩
      · cases this
    · exact ih h.2 e

/-- listed: as the model's array says -/
def Ls (listed : Array Bool) (k : Nat) : Prop := listed.getD k false = true

theorem draw_sound {F : Fix} {nt : Nat} {call : Cal} {ops : Array Oper} {ps : List (Nat × Nat)} {fs fs' : FS} {fps : List FP} {G : Gh} {a : Act} {w : World} {id : Nat} (hm : F.cx.P.follows .mixedOrders = true)
    (hd : ∀ (i : Nat) o, ops[i]? = some o → ∀ d, o.dst = some d → d < nt) (hc : CalOK F.cx.P call F.cx.dep) (hok : drawOk ops ps = true) (h : FR F nt (fun _ => False) fs G a w)
    (hs : lexF F.cx call ops 0 ops.toList fs [] = some (fs', fps)) (hcl : noClash fps ps = true) {Q : Exit → Act → World → Prop}
    (hq : ∀ G' a' w', FR F nt (fun j => j < ops.size) fs' G' a' w' → Q .normal a' w') : (Code.region id ops true).wp F.cx.P Q a w := by
  have hD := drawOk_spec hok
  obtain ⟨st, fp, h1, h2, h3, h4⟩ := lexF_trace ops.toList 0 fs [] fs' fps hs
  simp only [Nat.zero_add, Array.length_toList, List.nil_append] at h2 h3 h4
  have hfp : ∀ k, k < ops.size → fps[k]? = some (fp k) := fun k hk => by
    rw [h3, List.getElem?_map, List.getElem?_range' hk]; simp
  -- each step, as it stands in the text
  have step : ∀ (k : Nat) o, ops[k]? = some o → stepA F.cx call ops k o (st k) = some (.ok (st (k + 1)) (fp k)) := fun k o hk => h4 k o (by simpa using hk)
  have hself : ∀ (k : Nat) o, ops[k]? = some o → (∃ v, (st (k + 1)).t = putA (st k).t o.dst v) ∧ (st (k + 1)).c = (st k).c ∧ (∀ e, fp k ≠ .wl e → (st (k + 1)).b e = (st k).b e) ∧ (fp k ≠ .wh → (st (k + 1)).S = (st k).S) ∧ (quietK o = true → fp k = .non) := fun k o hk => by
    obtain ⟨v, e1, e2, e3, e4, e5, _⟩ := stepA_local (step k o hk) rfl (fun _ _ => rfl) (fun _ _ => rfl) (fun _ => rfl)
    exact ⟨⟨v, e1⟩, e2, e3, e4, e5⟩
  have hget : ∀ k, k < ops.size → ∃ o, ops[k]? = some o := fun k hk => ⟨ops[k], by simp [hk]⟩
  have hcc : ∀ k, k ≤ ops.size → (st k).c = (st 0).c := by
    intro k
    induction k with
    | zero => intro _; rfl
    | succ k ih => intro hk; obtain ⟨o, ho⟩ := hget k (by omega); rw [(hself k o ho).2.1, ih (by omega)]
  have tconst : ∀ x k, k < ops.size → ¬ ((ops[k]?).bind (·.dst) = some x) → (st (k + 1)).t x = (st k).t x := fun x k hk hn => by
    obtain ⟨o, ho⟩ := hget k hk
    obtain ⟨v, e⟩ := (hself k o ho).1
    rw [e]
    cases hdst : o.dst with
    | none => rfl
    | some d =>
      have : x ≠ d := fun hx => hn (by simp [ho, hdst, hx])
      simp [putA, upd, this]
  have bconst : ∀ d k, k < ops.size → ¬ (fp k = .wl d) → (st (k + 1)).b d = (st k).b d := fun d k hk hn => by
    obtain ⟨o, ho⟩ := hget k hk; exact (hself k o ho).2.2.1 d hn
  have Sconst : ∀ k, k < ops.size → ¬ (fp k = .wh) → (st (k + 1)).S = (st k).S := fun k hk hn => by
    obtain ⟨o, ho⟩ := hget k hk; exact (hself k o ho).2.2.2.1 hn
  -- two that clash are in order
  have ordered : ∀ i j oi oj, j < i → ops[i]? = some oi → ops[j]? = some oj → ((∃ d, oj.dst = some d ∧ (d ∈ oi.looksAt ops ∨ oi.dst = some d)) ∨ (∃ d, oi.dst = some d ∧ d ∈ oj.looksAt ops) ∨ FP.clash (fp j) (fp i) = true) →
      ((Region.before ops).getD i 0).testBit j = true := fun i j oi oj hji hi hj hcase => by
    have hilt := (Array.getElem?_eq_some_iff.1 hi).1
    have hp := hD.pair i j hji hilt
    unfold pairOk at hp
    split at hp
    · assumption
    · rw [hi, hj] at hp
      simp only [Bool.and_eq_true, Bool.or_eq_true] at hp
      obtain ⟨⟨p1, p2⟩, p3⟩ := hp
      exfalso
      rcases hcase with ⟨d, c1, c2⟩ | ⟨d, c1, c2⟩ | c
      · have := looksAt_apart p1 c1
        rcases c2 with c2 | c2
        · exact this.1 c2
        · exact this.2 c2
      · exact (looksAt_apart p2 c1).1 c2
      · rcases p3 with (p3 | p3) | p3
        · rw [(hself j oj hj).2.2.2.2 p3] at c
          cases hfi : fp i <;> rw [hfi] at c <;> simp [FP.clash] at c
        · rw [(hself i oi hi).2.2.2.2 p3] at c
          cases hfj : fp j <;> rw [hfj] at c <;> simp [FP.clash] at c
        · obtain ⟨x, y, e1, e2, e3⟩ := noClash_spec hcl (List.contains_iff_mem.1 p3)
          rw [hfp j (by omega)] at e1
          rw [hfp i hilt] at e2
          cases e1; cases e2
          rw [c] at e3; cases e3
  refine wp_region_any hm ?_
  have main : ∀ (fuel : Nat) (listed : Array Bool) (G : Gh) (a : Act) (w : World), listed.size = ops.size → Closed ops (Ls listed) →
      (List.range ops.size).countP (fun k => !listed.getD k false) ≤ fuel → FR F nt (Ls listed) (stateAt ops st fp (Ls listed)) G a w → wpAny F.cx.P .any ops Q fuel listed a w := by
    have fin : ∀ (listed : Array Bool) (G : Gh) (a : Act) (w : World), listed.size = ops.size → Closed ops (Ls listed) → Region.ready .any ops listed = [] → FR F nt (Ls listed) (stateAt ops st fp (Ls listed)) G a w → Q .normal a w := by
      intro listed G a w hsz hclo hr hfr
      have all : ∀ k, k < ops.size → Ls listed k := by
        intro k
        induction k using Nat.strongRecOn with
        | _ k ih =>
          intro hk
          obtain ⟨o, ho⟩ := hget k hk
          by_cases hl : Ls listed k
          · exact hl
          · exfalso
            have : k ∈ Region.ready .any ops listed := mem_ready.2 ⟨by
              unfold Ls at hl
              rw [Array.getD_eq_getD_getElem?] at hl ⊢
              cases hh : listed[k]? with
              | none => rw [Array.getElem?_eq_none_iff] at hh; omega
              | some b => rw [hh] at hl; simpa using hl, o, ho, fun e he hb => ih e.on (hD.edge k o ho e he hb) (by have := hD.edge k o ho e he hb; omega)⟩
            rw [hr] at this; cases this
      have hst : stateAt ops st fp (Ls listed) = fs' := by
        rw [← h2]
        have e1 : ∀ x, (stateAt ops st fp (Ls listed)).t x = (st ops.size).t x := fun x =>
          lastv_eq (W := fun k => (ops[k]?).bind (·.dst) = some x) (Nat.le_refl _) (tconst x) (fun k hk hw => ⟨all k hk, hw⟩) (fun k h1 h2 => by omega)
        have e2 : ∀ d, (stateAt ops st fp (Ls listed)).b d = (st ops.size).b d := fun d =>
          lastv_eq (W := fun k => fp k = .wl d) (Nat.le_refl _) (bconst d) (fun k hk hw => ⟨all k hk, hw⟩) (fun k h1 h2 => by omega)
        have e3 : (stateAt ops st fp (Ls listed)).S = (st ops.size).S :=
          lastv_eq (W := fun k => fp k = .wh) (Nat.le_refl _) Sconst (fun k hk hw => ⟨all k hk, hw⟩) (fun k h1 h2 => by omega)
        have e4 : (stateAt ops st fp (Ls listed)).c = (st ops.size).c := (hcc _ (Nat.le_refl _)).symm
        generalize hg : stateAt ops st fp (Ls listed) = g at *
        generalize st ops.size = s at *
        cases g; cases s
        simp only at e1 e2 e3 e4
        rw [e3, e4, funext e1, funext e2]
      rw [hst] at hfr
      refine hq G a w (hfr.weak fun j hj => ?_)
      unfold Ls at hj
      rw [Array.getD_eq_getD_getElem?] at hj
      cases hh : listed[j]? with
      | none => rw [hh] at hj; simp at hj
      | some b => have := (Array.getElem?_eq_some_iff.1 hh).1; omega
    intro fuel
    induction fuel with
    | zero =>
      intro listed G a w hsz hclo hcount hfr
      have hr : Region.ready .any ops listed = [] := by
        cases hrr : Region.ready .any ops listed with
        | nil => rfl
        | cons i l =>
          exfalso
          obtain ⟨r1, o, r2, _⟩ := mem_ready.1 (show i ∈ Region.ready .any ops listed by rw [hrr]; simp)
          have hi := (Array.getElem?_eq_some_iff.1 r2).1
          have : 0 < (List.range ops.size).countP (fun k => !listed.getD k false) := List.countP_pos_iff.2 ⟨i, by simpa using hi, by
            rw [Array.getD_eq_getD_getElem?] at r1 ⊢
            cases hh : listed[i]? with
            | none => simp
            | some b => rw [hh] at r1; simpa using r1⟩
          omega
      exact ⟨hr, fin listed G a w hsz hclo hr hfr⟩
    | succ fuel ih =>
      intro listed G a w hsz hclo hcount hfr
      refine ⟨fun hr => fin listed G a w hsz hclo hr hfr, fun i hi => ?_⟩
      obtain ⟨r1, o, r2, r3⟩ := mem_ready.1 hi
      have hilt := (Array.getElem?_eq_some_iff.1 r2).1
      have hin : ¬ Ls listed i := fun hl => by
        unfold Ls at hl
        rw [Array.getD_eq_getD_getElem?] at hl r1
        cases hh : listed[i]? with
        | none => rw [hh] at hl; simp at hl
        | some b => rw [hh] at hl r1; simp at hl r1; rw [hl] at r1; cases r1
      -- what stands ahead of i is listed; what i stands ahead of is not
      have before : ∀ j, j < i → ((Region.before ops).getD i 0).testBit j = true → Ls listed j := fun j hj hb => hclo.bit hD i i j (Nat.le_refl _) hilt hj hb fun o' ho' e he hb' => by
        rw [r2] at ho'; cases ho'; exact r3 e he hb'
      have behind : ∀ j, i < j → j < ops.size → ((Region.before ops).getD j 0).testBit i = true → ¬ Ls listed j := fun j hj hjl hb hl => hin (hclo.bit hD j j i (Nat.le_refl _) hjl hj hb fun o' ho' e he hb' => hclo j o' ho' hl e he hb')
      have tval : ∀ x, (x ∈ o.looksAt ops) → (stateAt ops st fp (Ls listed)).t x = (st i).t x := fun x hx =>
        lastv_eq (W := fun k => (ops[k]?).bind (·.dst) = some x) (Nat.le_of_lt hilt) (tconst x) (fun k hk hw => by
          obtain ⟨ok, hok⟩ := hget k (by omega)
          simp [hok] at hw
          exact ⟨before k hk (ordered i k o ok hk r2 hok (.inl ⟨x, hw, .inl hx⟩)), by simp [hok, hw]⟩) (fun k k1 k2 ⟨hl, hw⟩ => by
          rcases Nat.eq_or_lt_of_le k1 with e | e
          · rw [← e] at hl; exact hin hl
          · obtain ⟨ok, hok⟩ := hget k k2
            simp [hok] at hw
            exact behind k e k2 (ordered k i ok o e hok r2 (.inr (.inl ⟨x, hw, hx⟩))) hl)
      have bval : ∀ d, (fp i = .rl d ∨ fp i = .wl d) → (stateAt ops st fp (Ls listed)).b d = (st i).b d := fun d hx =>
        lastv_eq (W := fun k => fp k = .wl d) (Nat.le_of_lt hilt) (bconst d) (fun k hk hw => by
          obtain ⟨ok, hok⟩ := hget k (by omega)
          exact ⟨before k hk (ordered i k o ok hk r2 hok (.inr (.inr (by rcases hx with e | e <;> simp [hw, e, FP.clash])))), hw⟩) (fun k k1 k2 ⟨hl, hw⟩ => by
          rcases Nat.eq_or_lt_of_le k1 with e | e
          · rw [← e] at hl; exact hin hl
          · obtain ⟨ok, hok⟩ := hget k k2
            exact behind k e k2 (ordered k i ok o e hok r2 (.inr (.inr (by rcases hx with e' | e' <;> simp [hw, e', FP.clash])))) hl)
      have Sval : (fp i = .rh ∨ fp i = .wh) → (stateAt ops st fp (Ls listed)).S = (st i).S := fun hx =>
        lastv_eq (W := fun k => fp k = .wh) (Nat.le_of_lt hilt) Sconst (fun k hk hw => by
          obtain ⟨ok, hok⟩ := hget k (by omega)
          exact ⟨before k hk (ordered i k o ok hk r2 hok (.inr (.inr (by rcases hx with e | e <;> simp [hw, e, FP.clash])))), hw⟩) (fun k k1 k2 ⟨hl, hw⟩ => by
          rcases Nat.eq_or_lt_of_le k1 with e | e
          · rw [← e] at hl; exact hin hl
          · obtain ⟨ok, hok⟩ := hget k k2
            exact behind k e k2 (ordered k i ok o e hok r2 (.inr (.inr (by rcases hx with e' | e' <;> simp [hw, e', FP.clash])))) hl)
      obtain ⟨v, s1, s2, s3, s4, s5, u', u1, u2, u3, u4, u5, u6, u7⟩ := stepA_local (u := stateAt ops st fp (Ls listed)) (step i o r2) (hcc i (Nat.le_of_lt hilt)).symm tval bval Sval
      have hL' : ∀ k, Ls (listed.setIfInBounds i true) k ↔ Ls listed k ∨ k = i := fun k => by
        by_cases hk : k = i
        · subst hk
          simp [Ls, hsz, hilt]
        · simp only [Ls, getD_set_ne false (Ne.symm hk), hk, or_false]
      have hu : u' = stateAt ops st fp (Ls (listed.setIfInBounds i true)) := by
        have e1 : ∀ x, u'.t x = (stateAt ops st fp (Ls (listed.setIfInBounds i true))).t x := fun x => by
          rw [u2]
          by_cases hx : o.dst = some x
          · have : putA (stateAt ops st fp (Ls listed)).t o.dst v x = v := by simp [putA, hx, upd]
            rw [this]
            have e : (stateAt ops st fp (Ls (listed.setIfInBounds i true))).t x = (st (i + 1)).t x :=
              lastv_eq (W := fun k => (ops[k]?).bind (·.dst) = some x) hilt (tconst x) (fun k hk hw => by
                refine ⟨(hL' k).2 ?_, hw⟩
                by_cases hki : k = i
                · exact .inr hki
                · obtain ⟨ok, hok⟩ := hget k (by omega)
                  simp [hok] at hw
                  exact .inl (before k (by omega) (ordered i k o ok (by omega) r2 hok (.inl ⟨x, hw, .inr hx⟩)))) (fun k k1 k2 ⟨hl, hw⟩ => by
                rcases (hL' k).1 hl with hl | e
                · obtain ⟨ok, hok⟩ := hget k k2
                  simp [hok] at hw
                  exact behind k (by omega) k2 (ordered k i ok o (by omega) hok r2 (.inl ⟨x, hx, .inr hw⟩)) hl
                · omega)
            rw [e, s1]
            simp [putA, hx, upd]
          · have : putA (stateAt ops st fp (Ls listed)).t o.dst v x = (stateAt ops st fp (Ls listed)).t x := by
              cases hdst : o.dst with
              | none => rfl
              | some d =>
                have : x ≠ d := fun h' => hx (by rw [hdst, h'])
                simp [putA, upd, this]
            rw [this]
            exact lastv_congr fun k hk => by
              rw [hL']
              constructor
              · rintro ⟨h1, h2⟩; exact ⟨.inl h1, h2⟩
              · rintro ⟨h1 | h1, h2⟩
                · exact ⟨h1, h2⟩
                · subst h1; simp [r2] at h2; exact absurd h2 hx
        have e2 : ∀ d, u'.b d = (stateAt ops st fp (Ls (listed.setIfInBounds i true))).b d := fun d => by
          by_cases hx : fp i = .wl d
          · rw [u4 d hx]
            have e : (stateAt ops st fp (Ls (listed.setIfInBounds i true))).b d = (st (i + 1)).b d := (lastv_eq (W := fun k => fp k = .wl d) hilt (bconst d) (fun k hk hw => by
                refine ⟨(hL' k).2 ?_, hw⟩
                by_cases hki : k = i
                · exact .inr hki
                · obtain ⟨ok, hok⟩ := hget k (by omega)
                  exact .inl (before k (by omega) (ordered i k o ok (by omega) r2 hok (.inr (.inr (by simp [hw, hx, FP.clash])))))) (fun k k1 k2 ⟨hl, hw⟩ => by
                rcases (hL' k).1 hl with hl | e
                · obtain ⟨ok, hok⟩ := hget k k2
                  exact behind k (by omega) k2 (ordered k i ok o (by omega) hok r2 (.inr (.inr (by simp [hw, hx, FP.clash])))) hl
                · omega))
            exact e.symm
          · rw [u5 d hx]
            exact lastv_congr fun k hk => by
              rw [hL']
              constructor
              · rintro ⟨h1, h2⟩; exact ⟨.inl h1, h2⟩
              · rintro ⟨h1 | h1, h2⟩
                · exact ⟨h1, h2⟩
                · subst h1; exact absurd h2 hx
        have e3 : u'.S = (stateAt ops st fp (Ls (listed.setIfInBounds i true))).S := by
          by_cases hx : fp i = .wh
          · rw [u6 hx]
            have e : (stateAt ops st fp (Ls (listed.setIfInBounds i true))).S = (st (i + 1)).S := (lastv_eq (W := fun k => fp k = .wh) hilt Sconst (fun k hk hw => by
                refine ⟨(hL' k).2 ?_, hw⟩
                by_cases hki : k = i
                · exact .inr hki
                · obtain ⟨ok, hok⟩ := hget k (by omega)
                  exact .inl (before k (by omega) (ordered i k o ok (by omega) r2 hok (.inr (.inr (by simp [hw, hx, FP.clash])))))) (fun k k1 k2 ⟨hl, hw⟩ => by
                rcases (hL' k).1 hl with hl | e
                · obtain ⟨ok, hok⟩ := hget k k2
                  exact behind k (by omega) k2 (ordered k i ok o (by omega) hok r2 (.inr (.inr (by simp [hw, hx, FP.clash])))) hl
                · omega))
            exact e.symm
          · rw [u7 hx]
            exact lastv_congr fun k hk => by
              rw [hL']
              constructor
              · rintro ⟨h1, h2⟩; exact ⟨.inl h1, h2⟩
              · rintro ⟨h1 | h1, h2⟩
                · exact ⟨h1, h2⟩
                · subst h1; exact absurd h2 hx
        have e4 : u'.c = (stateAt ops st fp (Ls (listed.setIfInBounds i true))).c := u3
        generalize hg : stateAt ops st fp (Ls (listed.setIfInBounds i true)) = g at *
        cases g; cases u'
        simp only at e1 e2 e3 e4
        rw [e3, e4, funext e1, funext e2]
      have hstep := stepA_sound r2 hfr hin (hd i o r2) hc u1
      refine hstep _ Q fun G' a' w' hfr' => ih (listed.setIfInBounds i true) G' a' w' (by simp [hsz]) (fun j oj hj hl e he hb => ?_) ?_ ?_
      · rcases (hL' j).1 hl with hl | rfl
        · exact (hL' _).2 (.inl (hclo j oj hj hl e he hb))
        · rw [r2] at hj; cases hj; exact (hL' _).2 (.inl (r3 e he hb))
      · have : (List.range ops.size).countP (fun k => !(listed.setIfInBounds i true).getD k false) < (List.range ops.size).countP (fun k => !listed.getD k false) := by
          have e1 : (List.range ops.size).countP (fun k => !listed.getD k false) = (List.range ops.size).countP (fun k => !(listed.setIfInBounds i true).getD k false) + (List.range ops.size).countP (fun k => k == i) := by
            have gen : ∀ l : List Nat, l.countP (fun k => !listed.getD k false) = l.countP (fun k => !(listed.setIfInBounds i true).getD k false) + l.countP (fun k => k == i) := by
              intro l
              induction l with
              | nil => rfl
              | cons k l ihl =>
                simp only [List.countP_cons, ihl]
                by_cases hk : k = i
                · subst hk
                  have x1 : (listed.setIfInBounds k true).getD k false = true := (hL' k).2 (.inr rfl)
                  have x2 : listed.getD k false = false := by
                    cases hh : listed.getD k false with
                    | false => rfl
                    | true => exact absurd hh hin
                  simp [x1, x2]; omega
                · rw [getD_set_ne false (Ne.symm hk)]
                  have : (k == i) = false := by simp [hk]
                  simp [this]; omega
            exact gen _
          have e2 : 0 < (List.range ops.size).countP (fun k => k == i) := List.countP_pos_iff.2 ⟨i, by simpa using hilt, by simp⟩
          omega
        omega
      · rw [← hu]
        exact hfr'.weak fun j hj => (hL' j).2 hj
  refine main ops.size (Array.replicate ops.size false) G a _ (by simp) (fun i o ho hl => ?_) ?_ ?_
  · exfalso
    unfold Ls at hl
    rw [Array.getD_eq_getD_getElem?] at hl
    cases hh : (Array.replicate ops.size false)[i]? with
    | none => rw [hh] at hl; simp at hl
    | some b => rw [hh] at hl; simp [Array.getElem?_replicate] at hh; obtain ⟨_, rfl⟩ := hh; simp at hl
  · exact Nat.le_trans List.countP_le_length (by simp)
  · have none : ∀ k, ¬ Ls (Array.replicate ops.size false) k := fun k hl => by
      unfold Ls at hl
      rw [Array.getD_eq_getD_getElem?] at hl
      cases hh : (Array.replicate ops.size false)[k]? with
      | none => rw [hh] at hl; simp at hl
      | some b => rw [hh] at hl; simp [Array.getElem?_replicate] at hh; obtain ⟨_, rfl⟩ := hh; simp at hl
    have h0 : stateAt ops st fp (Ls (Array.replicate ops.size false)) = fs := by
      rw [← h1]
      have e1 : ∀ x, (stateAt ops st fp (Ls (Array.replicate ops.size false))).t x = (st 0).t x := fun x =>
        lastv_eq (W := fun k => (ops[k]?).bind (·.dst) = some x) (Nat.zero_le _) (tconst x) (fun k hk => by omega) (fun k _ _ h => none k h.1)
      have e2 : ∀ d, (stateAt ops st fp (Ls (Array.replicate ops.size false))).b d = (st 0).b d := fun d =>
        lastv_eq (W := fun k => fp k = .wl d) (Nat.zero_le _) (bconst d) (fun k hk => by omega) (fun k _ _ h => none k h.1)
      have e3 : (stateAt ops st fp (Ls (Array.replicate ops.size false))).S = (st 0).S :=
        lastv_eq (W := fun k => fp k = .wh) (Nat.zero_le _) Sconst (fun k hk => by omega) (fun k _ _ h => none k h.1)
      have e4 : (stateAt ops st fp (Ls (Array.replicate ops.size false))).c = (st 0).c := rfl
      generalize hg : stateAt ops st fp (Ls (Array.replicate ops.size false)) = g at *
      generalize st 0 = s at *
      cases g; cases s
      simp only at e1 e2 e3 e4
      rw [e3, e4, funext e1, funext e2]
    rw [h0]
    exact (h.drew).weak fun j hj => hj.elim
end Go.Proofs.Ytemggoaefohliaa.AE

/- What is handed back may be told in the caller's own words. No condition. -/
namespace Go.Proofs.Ytemggoaefohliaa.AE
set_option linter.unusedVariables false
set_option linter.unusedSimpArgs false
open Go Go.RowKit

/-! ### strip, low, sealed -/
mutual
theorem sealed_strip (t0 : Nat) : ∀ a : AV, (a.strip t0).sealed = a.sealed
  | .junk => rfl | .undef => rfl | .bool _ => rfl | .int _ _ => rfl | .str _ => rfl | .nilp => rfl | .nilif => rfl | .loc .. => rfl | .ptr .. => rfl
  | .agg cs => by simp only [AV.strip, AV.sealed]; exact sealedL_strip t0 cs
  | .tup cs => by simp only [AV.strip, AV.sealed]; exact sealedL_strip t0 cs
  | .ref cs => by simp only [AV.strip, AV.sealed]; exact sealedL_strip t0 cs
  | .slice es .non => by simp only [AV.strip, AV.sealed]; exact sealedL_strip t0 es
  | .slice es .clip => by simp only [AV.strip, AV.sealed]; exact sealedL_strip t0 es
  | .slice es (.own t p) => by
    simp only [AV.strip]
    split <;> (simp only [AV.sealed]; exact sealedL_strip t0 es)
  | .fn f a b => by simp only [AV.strip, AV.sealed, sealedL_strip t0 a, sealedL_strip t0 b]
  | .iface t v => by simp only [AV.strip, AV.sealed]; exact sealed_strip t0 v
theorem sealedL_strip (t0 : Nat) : ∀ l : List AV, AV.sealedL (AV.stripL t0 l) = AV.sealedL l
  | [] => rfl
  | a :: l => by simp only [AV.stripL, AV.sealedL, sealed_strip t0 a, sealedL_strip t0 l]
end
theorem stripL_map (t0 : Nat) (l : List AV) : AV.stripL t0 l = l.map (AV.strip t0) := by
  induction l with
  | nil => rfl
  | cons a l ih => simp [AV.stripL, ih]
theorem isCell_strip (t0 : Nat) (a : AV) : (a.strip t0).isCell = a.isCell := by
  cases a with
  | slice es tok => cases tok <;> simp only [AV.strip] <;> (try split) <;> rfl
  | _ => rfl
theorem cells_strip (t0 : Nat) (a : AV) : (a.strip t0).cells? = a.cells?.map (AV.stripL t0) := by
  cases a with
  | slice es tok => cases tok <;> simp only [AV.strip] <;> (try split) <;> simp [AV.cells?, AV.stripL, AV.strip, *]
  | agg cs =>
    have : (AV.stripL t0 cs).all AV.isCell = cs.all AV.isCell := by
      rw [stripL_map, List.all_map]
      congr 1
      funext x
      exact isCell_strip t0 x
    simp only [AV.strip, AV.cells?, this]
    split <;> rfl
  | _ => simp [AV.strip, AV.cells?, AV.stripL]
theorem flatQ_strip (t0 : Nat) (l : List AV) : flatQ (AV.stripL t0 l) = (flatQ l).map (AV.stripL t0) := by
  induction l with
  | nil => rfl
  | cons a l ih =>
    simp only [AV.stripL, flatQ, cells_strip, ih]
    cases a.cells? with
    | none => rfl
    | some cs =>
      cases flatQ l with
      | none => rfl
      | some fl => simp [stripL_map]
theorem sizesOk_strip (t0 n : Nat) (l : List AV) : sizesOk n (AV.stripL t0 l) = sizesOk n l := by
  induction l with
  | nil => rfl
  | cons a l ih =>
    simp only [AV.stripL, sizesOk, cells_strip, ih]
    cases a.cells? with
    | none => rfl
    | some cs => simp [stripL_map]

theorem VR.strip {G : Gh} (t0 : Nat) {a : AV} {v : Value} (r : VR G a v) : VR G (a.strip t0) v := by
  refine VR.rec (motive_1 := fun a v _ => VR G (a.strip t0) v) (motive_2 := fun l m _ => VRL G (AV.stripL t0 l) m) (motive_3 := fun l b o _ => VRI G (AV.stripL t0 l) b o)
    ?_ ?_ ?_ ?_ ?_ ?_ ?_ ?_ ?_ ?_ ?_ ?_ ?_ ?_ ?_ ?_ ?_ ?_ ?_ ?_ r
  · exact fun v => .junk v
  · exact .undef
  · exact fun b => .bool b
  · exact fun k n => .int k n
  · exact fun bs => .str bs
  · exact fun cs vs _ ih => .agg _ vs ih
  · exact fun cs vs _ ih => .tup _ vs ih
  · exact .nilp
  · exact fun cs b o _ ih => .ref _ b o ih
  · exact fun dep d ver off b hb => .loc dep d ver off b hb
  · exact fun id off b hb => .ptr id off b hb
  · exact fun f first cap fv cv _ _ ih1 ih2 => .fn f _ _ fv cv ih1 ih2
  · exact fun t a v _ ih => .iface t _ v ih
  · exact .nilif
  · intro tok ad ht
    cases tok with
    | non => exact .nils _ _ (by simp)
    | clip => exact .nils _ _ (by simp)
    | own t p => exact absurd rfl (ht t p)
  · intro es tok fl b o cap sz h1 h2 _ h4 h5 ih
    have hl : es.length = (AV.stripL t0 es).length := by simp [stripL_map]
    have hf : flatQ (AV.stripL t0 es) = some (AV.stripL t0 fl) := by rw [flatQ_strip, h2]; rfl
    have hs : sizesOk sz (AV.stripL t0 es) = true := by rw [sizesOk_strip]; exact h5
    cases tok with
    | non => simp only [AV.strip]; rw [hl]; exact .slice _ _ _ b o cap sz (by omega) hf ih trivial hs
    | clip => simp only [AV.strip]; rw [hl]; exact .slice _ _ _ b o cap sz (by omega) hf ih (by simp only [TokR] at h4 ⊢; omega) hs
    | own t p =>
      simp only [AV.strip]
      split
      · rw [hl]
        refine .slice _ _ _ b o cap sz (by omega) hf ih ?_ hs
        obtain ⟨n, sz', k1, k2, k3, k4, k5, k6⟩ := h4
        have hfl : (AV.stripL t0 fl).length = fl.length := by simp [stripL_map]
        exact ⟨n, sz', by intro e; apply k1; have := congrArg List.length e; simp [stripL_map] at this; exact this, k2, k3, k4, by rw [hfl, ← hl]; exact k5, fun e => by rw [hfl]; exact k6 e⟩
      · rw [hl]; exact .slice _ _ _ b o cap sz (by omega) hf ih trivial hs
  · exact .nil
  · exact fun a v l m _ _ ih1 ih2 => .cons _ v _ m ih1 ih2
  · exact fun b o => .nil b o
  · exact fun a v l b o hI _ _ ih1 ih2 => .cons _ v _ b o hI ih1 ih2

theorem lowL_mem {h0 t0 : Nat} {l : List AV} : AV.lowL h0 t0 l = true ↔ ∀ x ∈ l, x.low h0 t0 = true := by
  induction l with
  | nil => simp [AV.lowL]
  | cons a l ih => simp [AV.lowL, ih]
theorem lowL_flat {h0 t0 : Nat} {es fl : List AV} (h : flatQ es = some fl) : AV.lowL h0 t0 es = AV.lowL h0 t0 fl := by
  have app : ∀ a b : List AV, AV.lowL h0 t0 (a ++ b) = (AV.lowL h0 t0 a && AV.lowL h0 t0 b) := fun a b => by
    induction a with
    | nil => simp [AV.lowL]
    | cons x a ih => simp [AV.lowL, ih, Bool.and_assoc]
  induction es generalizing fl with
  | nil => simp [flatQ] at h; subst h; rfl
  | cons e es ih =>
    simp only [flatQ] at h
    split at h
    · rename_i cs l hc hl
      cases h
      rw [app, AV.lowL, ih hl]
      congr 1
      cases e <;> simp only [AV.cells?] at hc <;> first | (cases hc; simp [AV.lowL]) | (split at hc <;> simp_all [AV.low]) | cases hc
    · cases h
theorem sealedL_flat {es fl : List AV} (h : flatQ es = some fl) : AV.sealedL es = AV.sealedL fl := by
  have app : ∀ a b : List AV, AV.sealedL (a ++ b) = (AV.sealedL a && AV.sealedL b) := fun a b => by
    induction a with
    | nil => simp [AV.sealedL]
    | cons x a ih => simp [AV.sealedL, ih, Bool.and_assoc]
  induction es generalizing fl with
  | nil => simp [flatQ] at h; subst h; rfl
  | cons e es ih =>
    simp only [flatQ] at h
    split at h
    · rename_i cs l hc hl
      cases h
      rw [app, AV.sealedL, ih hl]
      congr 1
      cases e <;> simp only [AV.cells?] at hc <;> first | (cases hc; simp [AV.sealedL]) | (split at hc <;> simp_all [AV.sealed]) | cases hc
    · cases h

theorem VR.low {G : Gh} {h0 t0 : Nat} (hp : ∀ i b, G.phi i = some b → i < h0) (hf : ∀ t n, G.fr t = some n → t < t0) {a : AV} {v : Value} (r : VR G a v) : a.low h0 t0 = true := by
  refine VR.rec (motive_1 := fun a v _ => a.low h0 t0 = true) (motive_2 := fun l m _ => AV.lowL h0 t0 l = true) (motive_3 := fun l b o _ => AV.lowL h0 t0 l = true)
    ?_ ?_ ?_ ?_ ?_ ?_ ?_ ?_ ?_ ?_ ?_ ?_ ?_ ?_ ?_ ?_ ?_ ?_ ?_ ?_ r
  · exact fun v => rfl
  · exact rfl
  · exact fun b => rfl
  · exact fun k n => rfl
  · exact fun bs => rfl
  · exact fun cs vs _ ih => ih
  · exact fun cs vs _ ih => ih
  · exact rfl
  · exact fun cs b o _ ih => ih
  · exact fun dep d ver off b hb => rfl
  · exact fun id off b hb => by simp [AV.low, hp id b hb]
  · exact fun f first cap fv cv _ _ ih1 ih2 => by simp [AV.low, ih1, ih2]
  · exact fun t a v _ ih => ih
  · exact rfl
  · intro tok ad ht
    cases tok with
    | non => rfl
    | clip => rfl
    | own t p => exact absurd rfl (ht t p)
  · intro es tok fl b o cap sz h1 h2 _ h4 h5 ih
    rw [← lowL_flat h2] at ih
    cases tok with
    | non => exact ih
    | clip => exact ih
    | own t p =>
      obtain ⟨n, sz', k1, k2, k3, _⟩ := h4
      simp [AV.low, ih, hf t n k3]
  · exact rfl
  · exact fun a v l m _ _ ih1 ih2 => by simp [AV.lowL, ih1, ih2]
  · exact fun b o => rfl
  · exact fun a v l b o hI _ _ ih1 ih2 => by simp [AV.lowL, ih1, ih2]
theorem VRL.low {G : Gh} {h0 t0 : Nat} (hp : ∀ i b, G.phi i = some b → i < h0) (hf : ∀ t n, G.fr t = some n → t < t0) {l : List AV} {m : List Value} (r : VRL G l m) : AV.lowL h0 t0 l = true := by
  induction l generalizing m with
  | nil => rfl
  | cons a l ih => cases r with | cons _ v _ m ha hl => simp [AV.lowL, ha.low hp hf, ih hl]

/-- the same ghost below h0, t0 -/
structure Cut (G G' : Gh) (h0 t0 : Nat) : Prop where
  I : G'.I = G.I
  phi : ∀ i, i < h0 → G'.phi i = G.phi i
  tau : ∀ t, t < t0 → G'.tau t = G.tau t
  fr : ∀ t, t < t0 → G'.fr t = G.fr t
theorem VR.cut {G G' : Gh} {h0 t0 : Nat} (hc : Cut G G' h0 t0) {a : AV} {v : Value} (r : VR G a v) : a.sealed = true → a.low h0 t0 = true → VR G' a v := by
  refine VR.rec (motive_1 := fun a v _ => a.sealed = true → a.low h0 t0 = true → VR G' a v) (motive_2 := fun l m _ => AV.sealedL l = true → AV.lowL h0 t0 l = true → VRL G' l m)
    (motive_3 := fun l b o _ => AV.sealedL l = true → AV.lowL h0 t0 l = true → VRI G' l b o)
    ?_ ?_ ?_ ?_ ?_ ?_ ?_ ?_ ?_ ?_ ?_ ?_ ?_ ?_ ?_ ?_ ?_ ?_ ?_ ?_ r
  · exact fun v _ _ => .junk v
  · exact fun _ _ => .undef
  · exact fun b _ _ => .bool b
  · exact fun k n _ _ => .int k n
  · exact fun bs _ _ => .str bs
  · exact fun cs vs _ ih h1 h2 => .agg _ vs (ih h1 h2)
  · exact fun cs vs _ ih h1 h2 => .tup _ vs (ih h1 h2)
  · exact fun _ _ => .nilp
  · exact fun cs b o _ ih h1 h2 => .ref _ b o (ih h1 h2)
  · exact fun dep d ver off b hb h1 _ => by simp [AV.sealed] at h1
  · exact fun id off b hb _ h2 => .ptr id off b (by rw [hc.phi id (by simpa [AV.low] using h2)]; exact hb)
  · exact fun f first cap fv cv _ _ ih1 ih2 h1 h2 => by
      simp only [AV.sealed, AV.low, Bool.and_eq_true] at h1 h2
      exact .fn f _ _ fv cv (ih1 h1.1 h2.1) (ih2 h1.2 h2.2)
  · exact fun t a v _ ih h1 h2 => .iface t _ v (ih h1 h2)
  · exact fun _ _ => .nilif
  · exact fun tok ad ht _ _ => .nils tok ad ht
  · intro es tok fl b o cap sz h1 h2 _ h4 h5 ih s1 s2
    have s1' : AV.sealedL fl = true := by rw [← sealedL_flat h2]; exact s1
    have s2' : AV.lowL h0 t0 es = true := by
      cases tok with
      | non => exact s2
      | clip => exact s2
      | own t p => simp only [AV.low, Bool.and_eq_true] at s2; exact s2.2
    refine .slice es tok fl b o cap sz h1 h2 (ih s1' (by rw [← lowL_flat h2]; exact s2')) ?_ h5
    cases tok with
    | non => trivial
    | clip => exact h4
    | own t p =>
      have ht : t < t0 := by simp only [AV.low, Bool.and_eq_true, decide_eq_true_eq] at s2; exact s2.1
      obtain ⟨n, sz', k1, k2, k3, k4, k5, k6⟩ := h4
      exact ⟨n, sz', k1, k2, by rw [hc.fr t ht]; exact k3, k4, k5, fun e => by rw [hc.tau t ht]; exact k6 e⟩
  · exact fun _ _ => .nil
  · exact fun a v l m _ _ ih1 ih2 h1 h2 => by
      simp only [AV.sealedL, AV.lowL, Bool.and_eq_true] at h1 h2
      exact .cons _ v _ m (ih1 h1.1 h2.1) (ih2 h1.2 h2.2)
  · exact fun b o _ _ => .nil b o
  · exact fun a v l b o hI _ _ ih1 ih2 h1 h2 => by
      simp only [AV.sealedL, AV.lowL, Bool.and_eq_true] at h1 h2
      exact .cons _ v _ b o (by rw [hc.I]; exact hI) (ih1 h1.1 h2.1) (ih2 h1.2 h2.2)
theorem VRL.cut {G G' : Gh} {h0 t0 : Nat} (hc : Cut G G' h0 t0) {l : List AV} {m : List Value} (r : VRL G l m) (h1 : AV.sealedL l = true) (h2 : AV.lowL h0 t0 l = true) : VRL G' l m := by
  induction l generalizing m with
  | nil => cases r; exact .nil
  | cons a l ih =>
    simp only [AV.sealedL, AV.lowL, Bool.and_eq_true] at h1 h2
    cases r with | cons _ v _ m ha hl => exact .cons _ _ _ _ (ha.cut hc h1.1 h2.1) (ih hl h1.2 h2.2)

/-! ### equality of boxes -/
mutual
theorem avEq_spec : ∀ a b : AV, avEq a b = true → a = b
  | .junk, b, h => by cases b <;> simp_all [avEq]
  | .undef, b, h => by cases b <;> simp_all [avEq]
  | .nilp, b, h => by cases b <;> simp_all [avEq]
  | .nilif, b, h => by cases b <;> simp_all [avEq]
  | .bool x, b, h => by cases b <;> simp_all [avEq]
  | .int k x, b, h => by cases b <;> simp_all [avEq]
  | .str x, b, h => by cases b <;> simp_all [avEq]
  | .agg x, b, h => by
    cases b <;> simp only [avEq] at h <;> first | (rw [avEqL_spec x _ h]; done) | cases h
  | .tup x, b, h => by
    cases b <;> simp only [avEq] at h <;> first | (rw [avEqL_spec x _ h]; done) | cases h
  | .ref x, b, h => by
    cases b <;> simp only [avEq] at h <;> first | (rw [avEqL_spec x _ h]; done) | cases h
  | .slice x .non, b, h => by
    cases b with
    | slice y tok => cases tok <;> simp only [avEq] at h <;> first | (rw [avEqL_spec x _ h]; done) | cases h
    | _ => simp [avEq] at h
  | .slice x .clip, b, h => by
    cases b with
    | slice y tok => cases tok <;> simp only [avEq] at h <;> first | (rw [avEqL_spec x _ h]; done) | cases h
    | _ => simp [avEq] at h
  | .slice x (.own t p), b, h => by
    cases b with
    | slice y tok =>
      cases tok <;> simp only [avEq, Bool.and_eq_true, beq_iff_eq] at h <;> first | (obtain ⟨⟨rfl, rfl⟩, h⟩ := h; rw [avEqL_spec x _ h]; done) | cases h
    | _ => simp [avEq] at h
  | .loc .., b, h => by cases b <;> simp_all [avEq]
  | .ptr .., b, h => by cases b <;> simp_all [avEq]
  | .fn f x y, b, h => by
    cases b <;> simp only [avEq, Bool.and_eq_true, beq_iff_eq] at h <;> first | (obtain ⟨⟨rfl, h1⟩, h2⟩ := h; rw [avEqL_spec x _ h1, avEqL_spec y _ h2]; done) | cases h
  | .iface t x, b, h => by
    cases b <;> simp only [avEq, Bool.and_eq_true, beq_iff_eq] at h <;> first | (obtain ⟨rfl, h1⟩ := h; rw [avEq_spec x _ h1]; done) | cases h
theorem avEqL_spec : ∀ a b : List AV, avEqL a b = true → a = b
  | [], b, h => by cases b <;> simp_all [avEqL]
  | x :: a, b, h => by
    cases b with
    | nil => simp [avEqL] at h
    | cons y b =>
      simp only [avEqL, Bool.and_eq_true] at h
      rw [avEq_spec x y h.1, avEqL_spec a b h.2]
end
theorem boxEqL_spec : ∀ a b : List HBox, boxEqL a b = true → a = b
  | [], b, h => by cases b <;> simp_all [boxEqL]
  | x :: a, b, h => by
    cases b with
    | nil => simp [boxEqL] at h
    | cons y b =>
      simp only [boxEqL, Bool.and_eq_true, beq_iff_eq] at h
      obtain ⟨⟨h1, h2⟩, h3⟩ := h
      rw [boxEqL_spec a b h3]
      obtain ⟨ty, cs⟩ := x
      obtain ⟨ty', cs'⟩ := y
      simp only at h1 h2
      rw [h1, avEqL_spec cs cs' h2]
mutual
theorem avEq_refl : ∀ a : AV, avEq a a = true
  | .junk => rfl | .undef => rfl | .nilp => rfl | .nilif => rfl
  | .bool x => by simp [avEq]
  | .int k x => by simp [avEq]
  | .str x => by simp [avEq]
  | .agg x => by simp only [avEq]; exact avEqL_refl x
  | .tup x => by simp only [avEq]; exact avEqL_refl x
  | .ref x => by simp only [avEq]; exact avEqL_refl x
  | .slice x .non => by simp only [avEq]; exact avEqL_refl x
  | .slice x .clip => by simp only [avEq]; exact avEqL_refl x
  | .slice x (.own t p) => by simp [avEq, avEqL_refl x]
  | .loc .. => by simp [avEq]
  | .ptr .. => by simp [avEq]
  | .fn f x y => by simp [avEq, avEqL_refl x, avEqL_refl y]
  | .iface t x => by simp [avEq, avEq_refl x]
theorem avEqL_refl : ∀ a : List AV, avEqL a a = true
  | [] => rfl
  | x :: a => by simp [avEqL, avEq_refl x, avEqL_refl a]
end
theorem boxEqL_refl : ∀ a : List HBox, boxEqL a a = true
  | [] => rfl
  | x :: a => by simp [boxEqL, avEqL_refl x.cs, boxEqL_refl a]
end Go.Proofs.Ytemggoaefohliaa.AE

/- THE EVALUATOR IS SOUND: what it gives for a call is what the model gives. Condition: the checks 'codeOk' of the functions that it follows. -/
namespace Go.Proofs.Ytemggoaefohliaa.AE
set_option linter.unusedVariables false
set_option linter.unusedSimpArgs false
open Go Go.RowKit

def codeOk (nt : Nat) (ps : Nat → List (Nat × Nat)) : Code → Bool
  | .region id ops d => (ops.all fun o => match o.dst with | some d => decide (d < nt) | none => true) && (!d || drawOk ops (ps id))
  | .seq x y => codeOk nt ps x && codeOk nt ps y
  | .cond _ x y => codeOk nt ps x && codeOk nt ps y
  | .block _ c => codeOk nt ps c
  | .loop c => codeOk nt ps c
  | _ => true

def CodeP (F : Fix) (nt : Nat) (r : Out × FS) (Q : Exit → Act → World → Prop) : Prop :=
  match r.1 with
  | .norm => ∀ G a w, FR F nt (fun _ => False) r.2 G a w → Q .normal a w
  | .exit id => ∀ G a w, FR F nt (fun _ => False) r.2 G a w → Q (.exit id) a w
  | .ret => ∀ G a w, FR F nt (fun _ => False) r.2 G a w → Q .ret a w
  | .pan v => ∀ D G a w v', FR F nt D r.2 G a w → VR G v v' → Q (.panic [{ v := v', recovered := false }]) a w

theorem FR.region {F : Fix} {nt : Nat} {fs : FS} {G : Gh} {a : Act} {w : World} {n : Nat} (h : FR F nt (fun j => j < n) fs G a w) : FR F nt (fun _ => False) ⟨fs.t, fs.b, fs.c + n, fs.S⟩ G a w :=
  ⟨⟨h.pre.inv, h.pre.ext, h.pre.loc⟩, h.tm, h.nt, h.df, h.nul, fun v hv => (h.nud v hv).elim (fun h => .inl (by show v ≤ fs.c + n; omega)) (fun ⟨j, h1, h2⟩ => .inl (by show v ≤ fs.c + n; omega)), h.nue⟩

theorem evCode_sound {F : Fix} {nt : Nat} {call : Cal} {ps : Nat → List (Nat × Nat)} {L : Nat} (hm : F.cx.P.follows .mixedOrders = true) (hc : CalOK F.cx.P call F.cx.dep) :
    ∀ (c : Code), codeOk nt ps c = true → ∀ (fs : FS) (r : Out × FS), evCode F.cx call ps L c fs = some r → ∀ (G : Gh) (a : Act) (w : World), FR F nt (fun _ => False) fs G a w → ∀ Q, CodeP F nt r Q → c.wp F.cx.P Q a w := by
  intro c
  induction c with
  | skip => intro _ fs r h G a w hfr Q hq; cases h; exact wp_skip (hq G a w hfr)
  | exit id => intro _ fs r h G a w hfr Q hq; cases h; exact wp_exit (hq G a w hfr)
  | ret => intro _ fs r h G a w hfr Q hq; cases h; exact wp_ret (hq G a w hfr)
  | region id ops d =>
    intro hok fs r h G a w hfr Q hq
    simp only [codeOk, Bool.and_eq_true] at hok
    have hd : ∀ (i : Nat) o, ops[i]? = some o → ∀ d, o.dst = some d → d < nt := fun i o ho d hd => by
      have := (Array.all_eq_true'.1 hok.1) o (Array.mem_of_getElem? ho)
      rw [hd] at this
      simpa using this
    cases d with
    | false =>
      simp only [evCode] at h
      rw [lexA_range] at h
      cases hs : seqA F.cx call ops (List.range ops.size) fs with
      | none => rw [hs] at h; cases h
      | some s =>
        rw [hs] at h
        have hok' := seqA_sound hd hc (List.range ops.size) (fun _ => False) fs G a w List.nodup_range (fun _ _ h => h) hfr s hs
        refine wp_region ?_
        cases s with
        | ok fs' fp =>
          cases h
          refine hok' Q fun G' a' w' h' => hq G' a' w' ?_
          exact FR.region (h'.weak fun j hj => by rcases hj with hj | hj; exact hj.elim; exact List.mem_range.1 hj)
        | pan v fs' =>
          cases h
          exact hok' Q fun D' G' a' w' v' h' hv => hq D' G' a' w' v' h' hv
    | true =>
      simp only [evCode] at h
      cases hs : lexF F.cx call ops 0 ops.toList fs [] with
      | none => rw [hs] at h; cases h
      | some s =>
        obtain ⟨fs', fps⟩ := s
        rw [hs] at h
        simp only [afterDraw] at h
        split at h
        · rename_i hcl
          cases h
          exact draw_sound hm hd hc (by simpa using hok.2) hfr hs hcl fun G' a' w' h' => hq G' a' w' (FR.region h')
        · cases h
  | seq x y ihx ihy =>
    intro hok fs r h G a w hfr Q hq
    simp only [codeOk, Bool.and_eq_true] at hok
    simp only [evCode] at h
    refine wp_seq ?_
    split at h
    · rename_i fs' hx
      refine ihx hok.1 fs _ hx G a w hfr _ ?_
      exact fun G' a' w' h' => ihy hok.2 fs' r h G' a' w' h' Q hq
    · rename_i hne
      refine ihx hok.1 fs r h G a w hfr _ ?_
      obtain ⟨o, fs'⟩ := r
      cases o with
      | norm => exact absurd h (hne fs')
      | exit id => exact hq
      | ret => exact hq
      | pan v => exact hq
  | cond c x y ihx ihy =>
    intro hok fs r h G a w hfr Q hq
    simp only [codeOk, Bool.and_eq_true] at hok
    simp only [evCode] at h
    have hr := rho_VR hfr.tm c
    split at h
    · rename_i e
      rw [e] at hr
      exact wp_cond_true hr.inv_bool (ihx hok.1 fs r h G a w hfr Q hq)
    · rename_i e
      rw [e] at hr
      exact wp_cond_false hr.inv_bool (ihy hok.2 fs r h G a w hfr Q hq)
    · cases h
  | block id c ih =>
    intro hok fs r h G a w hfr Q hq
    simp only [codeOk] at hok
    simp only [evCode] at h
    refine wp_block ?_
    split at h
    · rename_i k fs' hx
      refine ih hok fs _ hx G a w hfr _ ?_
      intro G' a' w' h'
      split at h
      · rename_i hk
        cases h
        subst hk
        simp only [Exit.inBlock, if_true]
        exact hq G' a' w' h'
      · rename_i hk
        cases h
        simp only [Exit.inBlock, hk, if_false]
        exact hq G' a' w' h'
    · rename_i hne
      refine ih hok fs r h G a w hfr _ ?_
      obtain ⟨o, fs'⟩ := r
      cases o with
      | norm => exact hq
      | exit id' => exact absurd h (hne id' fs')
      | ret => exact hq
      | pan v => exact hq
  | loop c ih =>
    intro hok fs r h G a w hfr Q hq
    simp only [codeOk] at hok
    simp only [evCode] at h
    refine wp_loop_ghost (fun n a w => ∃ fs G, FR F nt (fun _ => False) fs G a w ∧ iter n (evCode F.cx call ps L c) fs = some r) L ⟨fs, G, hfr, h⟩ ?_
    rintro n a w ⟨fs, G, hfr, h⟩
    cases n with
    | zero => cases h
    | succ n =>
      simp only [iter] at h
      split at h
      · rename_i fs' hx
        refine ih hok fs _ hx G a w hfr _ ?_
        exact fun G' a' w' h' => ⟨n, Nat.lt_succ_self n, fs', G', h', h⟩
      · rename_i hne
        refine ih hok fs r h G a w hfr _ ?_
        obtain ⟨o, fs'⟩ := r
        cases o with
        | norm => exact absurd h (hne fs')
        | exit id' => exact hq
        | ret => exact hq
        | pan v => exact hq
  | _ => intro _ fs r h; simp [evCode] at h

theorem evLoad_ptr {cx : Ctx} {fs : FS} {G : Gh} {t : TypeId} {x : AV} {xv : Value} {r : OR} (hx : VR G x xv) (h : evLoad cx t x fs = some r) : ∃ ad, xv = .pointer (some ad) := by
  unfold evLoad at h
  split at h
  · cases h
  · split at h
    · obtain ⟨b, o, rfl, _⟩ := hx.inv_ref; exact ⟨_, rfl⟩
    · obtain ⟨b, rfl, _⟩ := hx.inv_loc; exact ⟨_, rfl⟩
    · obtain ⟨b, rfl, _⟩ := hx.inv_ptr; exact ⟨_, rfl⟩
    · cases h

theorem resA_run {F : Fix} {nt : Nat} {D : Nat → Prop} {fs : FS} {G : Gh} {a : Act} {w : World} (h : FR F nt D fs G a w) : ∀ (rs : List ResultVar) (l : List AV), resA F.cx.P F.cx fs rs = some l →
    ∃ vs, (rs.mapM fun | .tmp t => pure (a.tmps.getD t undef) | .cell b t => do loadVar t (← asAddr (a.tmps.getD b undef)) : Sem (List Value)).run F.cx.P w = .ok vs w ∧ VRL G l vs
  | [], l, hr => by cases hr; exact ⟨[], by simp, .nil⟩
  | .tmp t :: rs, l, hr => by
    simp only [resA] at hr
    split at hr
    · rename_i r hrr
      cases hr
      obtain ⟨vs, h1, h2⟩ := resA_run h rs r hrr
      exact ⟨_ :: vs, by simp only [List.mapM_cons, Sem.run_bind, Sem.run_pure, Result.andThen_ok, h1], .cons _ _ _ _ (h.tm t) h2⟩
    · cases hr
  | .cell b t :: rs, l, hr => by
    simp only [resA] at hr
    split at hr
    · rename_i v b' S' fp r hv hrr
      cases hr
      obtain ⟨vs, h1, h2⟩ := resA_run h rs r hrr
      obtain ⟨ad, had⟩ := evLoad_ptr (h.tm b) hv
      obtain ⟨_, _, v', h3, h4⟩ := evLoad_run h.pre (h.tm b) hv
      rw [had] at h3
      simp only [Instr.loadAt, Instr.sureAddr, pure_bind] at h3
      have haa : (asAddr (a.tmps.getD b undef)).run F.cx.P w = .ok ad w := by rw [had]; rfl
      exact ⟨v' :: vs, by simp only [List.mapM_cons, Sem.run_bind, Sem.run_pure, Result.andThen_ok, haa, h3, h1], .cons _ _ _ _ h4 h2⟩
    · cases hr

theorem oneOf_VR {G : Gh} {l : List AV} {vs : List Value} (h : VRL G l vs) : VR G (oneOf l) (if h : vs.toArray.size = 1 then vs.toArray[0] else .tuple vs.toArray) := by
  cases h with
  | nil => simp [oneOf]; exact .tup [] #[] .nil
  | cons a v l m ha hl =>
    cases hl with
    | nil => simpa [oneOf] using ha
    | cons b u l m hb hl =>
      have : oneOf (a :: b :: l) = .tup (a :: b :: l) := rfl
      rw [this]
      simp
      exact .tup _ _ (by simpa using .cons _ _ _ _ ha (.cons _ _ _ _ hb hl))

/-- handed back: in the caller's own words, if they suffice -/
theorem finish_sound {w0 : World} {B : Nat} {G G' : Gh} {S S' S2 : St} {w w' : World} {v r : AV} {v' : Value} (hi : Inv w0 B G S w) (hi' : Inv w0 B G' S' w') (he : Ext G w G' w') (hv : VR G' v v') (h : finish S v S' = some (r, S2)) :
    ∃ G2, Inv w0 B G2 S2 w' ∧ Ext G w G2 w' ∧ G2.nu = G.nu ∧ VR G2 r v' := by
  have hfrd : ∀ {G : Gh} {S : St} {w : World}, Inv w0 B G S w → ∀ t n, G.fr t = some n → t < S.T.length := fun hi t n h => by
    rw [hi.fr] at h; exact (List.getElem?_eq_some_iff.1 h).1
  unfold finish at h
  split at h
  · rename_i hsl
    split at h
    · rename_i hc
      cases h
      simp only [Bool.and_eq_true, beq_iff_eq] at hc
      obtain ⟨⟨c1, c2⟩, c3⟩ := hc
      have c1 := boxEqL_spec _ _ c1
      let G2 : Gh := { I := G'.I, phi := fun i => if i < S.H.length then G'.phi i else none, nu := G.nu, tau := fun t => if t < S.T.length then G'.tau t else none, fr := fun t => S.T[t]? }
      have hT : ∀ t, t < S.T.length → S'.T[t]? = S.T[t]? := fun t ht => by
        have := congrArg (fun l : List Nat => l[t]?) c2
        simpa [List.getElem?_take, ht] using this
      have hH : ∀ i, i < S.H.length → S'.H[i]? = S.H[i]? := fun i hl => by
        have := congrArg (fun l : List HBox => l[i]?) c1
        simpa [List.getElem?_take, hl] using this
      have cut : Cut G' G2 S.H.length S.T.length := ⟨rfl, fun i hi => by simp [G2, hi], fun t ht => by simp [G2, ht], fun t ht => by
        show S.T[t]? = G'.fr t
        rw [hi'.fr, hT t ht]⟩
      have hphi : ∀ i b, G2.phi i = some b → i < S.H.length ∧ G'.phi i = some b := fun i b h => by
        by_cases hl : i < S.H.length
        · exact ⟨hl, by simpa [G2, hl] using h⟩
        · simp [G2, hl] at h
      have htau : ∀ t x, G2.tau t = some x → t < S.T.length ∧ G'.tau t = some x := fun t x h => by
        by_cases hl : t < S.T.length
        · exact ⟨hl, by simpa [G2, hl] using h⟩
        · simp [G2, hl] at h
      have le : Gle G G2 := by
        refine ⟨he.le.I, fun i b hb => ?_, fun _ _ _ h => h, fun t n hn => ?_⟩
        · have := hi.phid i b hb
          simp [G2, this, he.le.phi i b hb]
        · have ht := hfrd hi t n hn
          rw [hi.fr] at hn
          refine ⟨n, hn, Nat.le_refl _, fun _ => ?_⟩
          obtain ⟨n', e1, e2, e3⟩ := he.le.fr t n (by rw [hi.fr]; exact hn)
          rw [hi'.fr, hT t ht, hn] at e1
          cases e1
          simp [G2, ht, e3 rfl]
      refine ⟨G2, ⟨hi'.below, hi'.base, hi'.imm, fun _ => rfl, fun i bx hb => ?_, fun i b hb => (hphi i b hb).1, fun i j b h1 h2 => hi'.phij i j b (hphi i b h1).2 (hphi j b h2).2, fun t n hn => ?_, fun t x hx => (htau t x hx).1, fun t u b m m' h1 h2 => hi'.tauj t u b m m' (htau t _ h1).2 (htau u _ h2).2⟩,
        ⟨le, he.size, fun i b hb => he.phi i b (hphi i b hb).2, fun t x hx => he.tau t x (htau t x hx).2, he.I, he.keep⟩, rfl, ?_⟩
      · have hlt := (List.getElem?_eq_some_iff.1 hb).1
        obtain ⟨b0, vs0, _, _, _, k4, _⟩ := hi.box i bx hb
        obtain ⟨b, vs, j1, j2, j3, j4, j5, j6, j7, j8⟩ := hi'.box i bx (by rw [hH i hlt]; exact hb)
        exact ⟨b, vs, by simp [G2, hlt, j1], j2, j3, j4.cut cut j8 (k4.low (fun i b h => hi.phid i b h) (hfrd hi)), j5, j6, j7, j8⟩
      · have hlt := (List.getElem?_eq_some_iff.1 hn).1
        obtain ⟨b, m, vs, ty, fz, j1, j2, j3, j4, j5, j6, j7⟩ := hi'.tok t n (by rw [hT t hlt]; exact hn)
        exact ⟨b, m, vs, ty, fz, by simp [G2, hlt, j1], j2, j3, j4, j5, j6, fun i hb => j7 i (hphi i b hb).2⟩
      · exact (hv.strip S.T.length).cut cut (by rw [sealed_strip]; exact hsl) c3
    · cases h
      let G2 : Gh := { G' with nu := G.nu }
      have cut : Cut G' G2 S'.H.length S'.T.length := ⟨rfl, fun _ _ => rfl, fun _ _ => rfl, fun _ _ => rfl⟩
      refine ⟨G2, ⟨hi'.below, hi'.base, hi'.imm, hi'.fr, fun i bx hb => ?_, hi'.phid, hi'.phij, hi'.tok, hi'.taud, hi'.tauj⟩, ⟨⟨he.le.I, he.le.phi, fun _ _ _ h => h, he.le.fr⟩, he.size, he.phi, he.tau, he.I, he.keep⟩, rfl, hv.cut cut hsl (hv.low (fun i b h => hi'.phid i b h) (hfrd hi'))⟩
      obtain ⟨b, vs, j1, j2, j3, j4, j5, j6, j7, j8⟩ := hi'.box i bx hb
      exact ⟨b, vs, j1, j2, j3, j4.cut cut j8 (j4.low (fun i b h => hi'.phid i b h) (hfrd hi')), j5, j6, j7, j8⟩
  · cases h

/-- the environment is as it says: the functions that are followed pass the check, the others' answers are proved -/
structure EnvOK (P : Program) (E : Env) : Prop where
  mixed : P.follows .mixedOrders = true
  code : ∀ f fn c, E.ok f = true → P.funcs[f]? = some fn → fn.body = some c → codeOk fn.ntmps (E.ps f) c = true
  ext : ∀ f args S r S', E.ok f = false → E.ext f args S = some (r, S') →
    (∃ fn, P.funcs[f]? = some fn ∧ (fn.name == "runtime.NumGoroutine") = false ∧ fn.body.isSome = true) ∧
    ∀ (w0 : World) (B : Nat) (G : Gh) (w : World) (vs : Array Value), Inv w0 B G S w → VRL G args vs.toList →
      Calls P f vs w fun e w' => ∃ G', Inv w0 B G' S' w' ∧ Ext G w G' w' ∧ G'.nu = G.nu ∧ ResR G' r e

theorem args_VR {G : Gh} {args : List AV} {vs : Array Value} (h : VRL G args vs.toList) (n x : Nat) : VR G (argsA args x) ((vs ++ Array.replicate n undef).getD x undef) := by
  have hl := h.length
  simp at hl
  unfold argsA
  rw [Array.getD_eq_getD_getElem?, Array.getElem?_append]
  cases ha : args[x]? with
  | some a =>
    obtain ⟨v, h1, h2⟩ := h.get ha
    have hlt : x < vs.size := by
      have := (List.getElem?_eq_some_iff.1 ha).1; omega
    rw [if_pos hlt]
    simp at h1
    rw [h1]
    exact h2
  | none =>
    have hge : ¬ x < vs.size := by
      rw [List.getElem?_eq_none_iff] at ha; omega
    rw [if_neg hge, Array.getElem?_replicate]
    by_cases hx : x - vs.size < n
    · rw [if_pos hx]; exact .undef
    · rw [if_neg hx]; exact .undef

theorem ev_sound {P : Program} {E : Env} (hE : EnvOK P E) : ∀ n, CalOK P (ev P E n) n := by
  intro n
  induction n with
  | zero => intro f args S r S' h; cases h
  | succ n ih =>
    intro f args S r S' h
    simp only [ev] at h
    split at h
    · rename_i hok
      unfold evFunc at h
      split at h
      · cases h
      · rename_i fn hfn
        split at h
        · cases h
        · rename_i c hbody
          split at h
          · rename_i hcond
            refine ⟨⟨fn, hfn, hcond.2, by simp [hbody]⟩, fun w0 B G w vs hi hnu hargs => ?_⟩
            have hl := hargs.length
            simp at hl
            let F : Fix := { w0 := w0, B := B, Ge := G, we := w, Se := S, cx := ⟨P, E.esc f, n⟩, ie := hi }
            have hfr : FR F fn.ntmps (fun _ => False) ⟨argsA args, fun _ => (0, []), 0, S⟩ G { tmps := vs ++ Array.replicate (fn.ntmps - vs.size) undef, defers := [] } w :=
              ⟨⟨hi, .refl G w, ⟨fun d hd => absurd rfl hd, fun d e k hd => absurd rfl hd⟩⟩, fun x => args_VR hargs _ x, by simp; omega, rfl, fun d v hd => hnu d v (by have : d < n := hd; omega), fun v hv => absurd (hnu n v (by omega)) hv, fun _ _ _ => rfl⟩
            have hcal : CalOK F.cx.P (ev P E n) F.cx.dep := ih
            cases hev : evCode ⟨P, E.esc f, n⟩ (ev P E n) (E.ps f) n c ⟨argsA args, fun _ => (0, []), 0, S⟩ with
            | none => rw [hev] at h; cases h
            | some o =>
              rw [hev] at h
              refine calls_of_wp hfn hbody ?_
              refine evCode_sound (F := F) hE.mixed hcal c (hE.code f fn c hok hfn hbody) _ o hev G _ w hfr _ ?_
              obtain ⟨out, fs⟩ := o
              have fin : ∀ (G' : Gh) (a : Act) (w' : World), FR F fn.ntmps (fun _ => False) fs G' a w' → (match resA P ⟨P, E.esc f, n⟩ fs fn.results.toList with | some vs => finRet S (oneOf vs) fs.S | none => none) = some (r, S') →
                  a.defers = [] ∧ ∃ v, (results fn a.tmps).run P w' = .ok v w' ∧ ∃ G2, Inv w0 B G2 S' w' ∧ Ext G w G2 w' ∧ G2.nu = G.nu ∧ ResR G2 r (.returned v) := by
                intro G' a w' hfr' hres
                split at hres
                · rename_i l hl
                  obtain ⟨vs', h1, h2⟩ := resA_run hfr' fn.results.toList l hl
                  unfold finRet at hres
                  split at hres
                  · rename_i rv S2 hfin
                    cases hres
                    obtain ⟨G2, g1, g2, g3, g4⟩ := finish_sound hi hfr'.pre.inv hfr'.pre.ext (oneOf_VR h2) hfin
                    refine ⟨hfr'.df, _, ?_, G2, g1, g2, g3, g4⟩
                    unfold results
                    simp only [Sem.run_bind]
                    rw [Array.mapM_eq_mapM_toList]
                    simp only [Sem.run_map]
                    rw [show F.cx.P = P from rfl] at h1
                    erw [h1]
                    simp
                  · cases hres
                · cases hres
              cases out with
              | norm => exact fun G' a w' hfr' => fin G' a w' hfr' h
              | ret => exact fun G' a w' hfr' => fin G' a w' hfr' h
              | exit id => cases h
              | pan v =>
                intro D G' a w' v' hfr' hv
                simp only [fromBody, finPan] at h
                split at h
                · rename_i rv S2 hfin
                  cases h
                  obtain ⟨G2, g1, g2, g3, g4⟩ := finish_sound hi hfr'.pre.inv hfr'.pre.ext hv hfin
                  exact ⟨hfr'.df, G2, g1, g2, g3, v', rfl, g4⟩
                · cases h
          · cases h
    · rename_i hok
      obtain ⟨h1, h2⟩ := hE.ext f args S r S' (by simpa using hok) h
      exact ⟨h1, fun w0 B G w vs hi _ ha => h2 w0 B G w vs hi ha⟩
end Go.Proofs.Ytemggoaefohliaa.AE

/- From an input's reading to the evaluator's values; from its answer to the row's; rounds of a loop. No condition. -/
namespace Go.Proofs.Ytemggoaefohliaa.AE
set_option linter.unusedVariables false
set_option linter.unusedSimpArgs false
open Go Go.RowKit Go.ChangeShapes

/-- what is known when a call begins: every cell reads as it does -/
def gh0 (W : World) : Gh := ⟨fun b o => W.cell? ⟨b, o, none⟩, fun _ => none, fun _ _ => none, fun _ => none, fun _ => none⟩
def st0 : St := ⟨[], []⟩

theorem inv0 (W : World) : Inv W W.heap.size (gh0 W) st0 W where
  below := Below.refl _ _
  base := Nat.le_refl _
  imm := fun _ _ _ h => h
  fr := fun t => by simp [gh0, st0]
  box := fun i bx h => by simp [st0] at h
  phid := fun i b h => by simp [gh0] at h
  phij := fun i j b h => by simp [gh0] at h
  tok := fun t n h => by simp [st0] at h
  taud := fun t x h => by simp [gh0] at h
  tauj := fun t u b m m' h => by simp [gh0] at h

/-- THE JOIN: an evaluation to a bool is what the call returns; below the heap's old size nothing turns. -/
theorem run_bool {P : Program} {E : Env} (hE : EnvOK P E) {n : Nat} {f : FuncId} {args : List AV} {S' : St} {b : Bool} (h : ev P E n f args st0 = some (.ret (.bool b), S'))
    {W : World} {vs : Array Value} (hv : VRL (gh0 W) args vs.toList) : Calls P f vs W fun e W' => e = .returned (.bool b) ∧ Below W.heap.size W W' := by
  refine ((ev_sound hE n f args st0 _ _ h).2 W W.heap.size (gh0 W) W vs (inv0 W) (fun _ _ _ => rfl) hv).mono fun e W' ⟨G', hi, _, _, hr⟩ => ?_
  cases e with
  | returned v => exact ⟨by rw [VR.inv_bool hr], hi.below⟩
  | _ => exact hr.elim

section
variable {H : Type} {enc : TypeId × Value → H} {P : Program} {W : World} {held : Bool}

theorem cells_I {b : Nat} {a : Addr} {n : Nat} {cs : List Value} (h : W.cells? b a n = some cs) (hn : 0 < n) (hs : a.spot = none ∨ a.spot ≠ none) :
    ∀ j u, cs[j]? = some u → (j = 0 → a.spot = none) ∧ (gh0 W).I a.block (a.off + j) = some u := by
  intro j u hj
  obtain ⟨_, hl, hc⟩ := World.cells?_some h
  have hlt := (List.getElem?_eq_some_iff.1 hj).1
  have h0 := hc 0 hn
  have hs0 : a.spot = none := by
    cases hsp : a.spot with
    | none => rfl
    | some x =>
      exfalso
      have h1 : (W.cell? (a.add 0)) = none := by
        simp only [Addr.add, if_pos, World.cell?, hsp]
        split <;> rfl
      rw [h1] at h0
      have := List.getElem?_eq_none_iff.1 h0.symm
      omega
  refine ⟨fun _ => hs0, ?_⟩
  have := hc j (by omega)
  rw [hj] at this
  show W.cell? ⟨a.block, a.off + j, none⟩ = some u
  rw [← this]
  congr 1
  obtain ⟨b, o, s⟩ := a
  simp at hs0
  subst hs0
  simp only [Addr.add]
  split <;> simp_all

theorem VRI_of {G : Gh} {l : List AV} {m : List Value} (h : VRL G l m) (b o : Nat) (hI : ∀ j u, m[j]? = some u → G.I b (o + j) = some u) : VRI G l b o := by
  induction l generalizing m o with
  | nil => exact .nil b o
  | cons a l ih =>
    cases h with
    | cons _ v _ m ha hl =>
      refine .cons a v l b o (by simpa using hI 0 v (by simp)) ha (ih hl (o + 1) fun j u hj => ?_)
      have := hI (j + 1) u (by simpa using hj)
      rw [show o + 1 + j = o + (j + 1) by omega]
      exact this

theorem VRI_append {G : Gh} {l m : List AV} {b o : Nat} (h : VRI G l b o) (k : VRI G m b (o + l.length)) : VRI G (l ++ m) b o := by
  induction l generalizing o with
  | nil => simpa using k
  | cons a l ih =>
    cases h with
    | cons _ v _ _ _ hI ha hl => exact .cons _ _ _ _ _ hI ha (ih hl (by rw [show o + 1 + l.length = o + (a :: l).length by simp; omega]; exact k))

/-- the elements of a row, one by one -/
theorem row_open {α : Type} {Q : α → DataW H × List MemPlace → Prop} {emb : α → AV} {cl : α → List AV} {sz : Nat} (hpos : 0 < sz) {b0 : Nat} {e n : Nat} {a : Addr}
    (hcl : ∀ x, (emb x).cells? = some (cl x) ∧ (cl x).length = sz)
    (hel : ∀ cs y, DataW.trod enc P W b0 (fun _ => true) held n e cs = some y → ∃ x, VRL (gh0 W) (cl x) cs ∧ Q x y) :
    ∀ (l : List (DataW H × List MemPlace)) (i0 : Nat), (∀ (i : Nat) (y : DataW H × List MemPlace), l[i]? = some y → (W.cells? b0 (a.add ((i0 + i) * sz)) sz).bind (DataW.trod enc P W b0 (fun _ => true) held n e) = some y) →
      ∃ xs : List α, xs.length = l.length ∧ (∀ (i : Nat) (x : α), xs[i]? = some x → ∃ y, l[i]? = some y ∧ Q x y) ∧ flatQ (xs.map emb) = some (xs.flatMap cl) ∧
        (xs ≠ [] → i0 = 0 → a.spot = none) ∧ VRI (gh0 W) (xs.flatMap cl) a.block (a.off + i0 * sz)
  | [], i0, _ => ⟨[], rfl, fun i x h => by simp at h, rfl, fun h => absurd rfl h, .nil _ _⟩
  | y :: l, i0, h => by
    obtain ⟨xs, h1, h2, h3, h4, h5⟩ := row_open hpos hcl hel l (i0 + 1) fun i y' hy => by
      have := h (i + 1) y' (by simpa using hy)
      rw [show i0 + 1 + i = i0 + (i + 1) by omega]
      exact this
    have hy := h 0 y (by simp)
    rw [Nat.add_zero, Option.bind_eq_some_iff] at hy
    obtain ⟨cs, hcs, hy⟩ := hy
    obtain ⟨x, hx, hq⟩ := hel cs y hy
    obtain ⟨c1, c2⟩ := hcl x
    have hI := cells_I hcs hpos (Decidable.em _)
    have hlen := hx.length
    have hb : (a.add (i0 * sz)).block = a.block := block_add _ _
    have ho : (a.add (i0 * sz)).off = a.off + i0 * sz := by
      simp only [Addr.add]; split <;> simp_all
    refine ⟨x :: xs, by simp [h1], fun i x' hx' => ?_, by simp [flatQ, c1, h3], fun _ hi => ?_, ?_⟩
    · cases i with
      | zero => simp at hx'; subst hx'; exact ⟨y, by simp, hq⟩
      | succ i => simpa using h2 i x' (by simpa using hx')
    · subst hi
      cases hcs0 : cs with
      | nil => rw [hcs0] at hlen; simp at hlen; omega
      | cons v cs' =>
        have := (hI 0 v (by rw [hcs0]; rfl)).1 rfl
        simpa [Addr.add] using this
    · simp only [List.flatMap_cons]
      refine VRI_append (VRI_of hx _ _ fun j u hj => ?_) ?_
      · have := (hI j u hj).2
        rw [hb, ho] at this
        exact this
      · rw [c2, Nat.add_assoc, show i0 * sz + sz = (i0 + 1) * sz by rw [Nat.add_mul, Nat.one_mul]]
        exact h5

/-- A SLICE: its elements, one by one; what lies behind them up to its room is read, and does not matter. -/
theorem slice_open {α : Type} {Q : α → DataW H × List MemPlace → Prop} {emb : α → AV} {cl : α → List AV} {sz : Nat} (hpos : 0 < sz) {b0 : Nat} {t e fuel : Nat} (ht : P.underlying t = some (.slice e)) (hsz : P.cellsOf e = sz)
    (hcl : ∀ x, (emb x).cells? = some (cl x) ∧ (cl x).length = sz)
    {cs : List Value} {x : DataW H × List MemPlace} (h : DataW.trod enc P W b0 (fun _ => true) held fuel t cs = some x)
    (hel : ∀ n cs y, n < fuel → DataW.trod enc P W b0 (fun _ => true) held n e cs = some y → ∃ x, VRL (gh0 W) (cl x) cs ∧ Q x y) :
    ∃ xs : List α, VRL (gh0 W) [.slice (xs.map emb) .non] cs ∧
      ((xs = [] ∧ x.1 = .nil) ∨ ∃ (ys : List (DataW H × List MemPlace)) (rest : List (DataW H)), x.1 = .slice (ys.map (·.1)) rest ∧ ys.length = xs.length ∧ ∀ (i : Nat) (x : α), xs[i]? = some x → ∃ y, ys[i]? = some y ∧ Q x y) := by
  subst hsz
  rcases DataW.trod_slice ht h with ⟨rfl, rfl⟩ | ⟨a, len, cap, elems, rest, n, hf, rfl, rfl, hb, hl, hm, hlen, hel1, hsp, _⟩
  · exact ⟨[], .cons _ _ _ _ (.nils _ _ (by simp)) .nil, .inl ⟨rfl, rfl⟩⟩
  obtain ⟨hrl, hr⟩ := hsp rfl
  have hel' := fun cs y h => hel n cs y (by omega) h
  obtain ⟨xs, h1, h2, h3, h4, h5⟩ := row_open hpos hcl hel' (elems ++ rest) 0 (a := a) fun i y hy => by
    rw [Nat.zero_add]
    by_cases hi : i < len
    · rw [List.getElem?_append_left (by omega)] at hy
      rw [hel1 i hi]; exact hy
    · rw [List.getElem?_append_right (by omega)] at hy
      have hlt := (List.getElem?_eq_some_iff.1 hy).1
      have := hr (i - len) (by omega)
      rw [show len + (i - len) = i by omega] at this
      rw [this, ← hy, hlen]
  simp only [List.length_append] at h1
  have hxl : (xs.take len).length = len := by simp; omega
  refine ⟨xs.take len, ?_, .inr ⟨elems, rest.map (·.1), rfl, by rw [hxl, hlen], fun i x hx => ?_⟩⟩
  · refine .cons _ _ _ _ ?_ .nil
    by_cases hcap : cap = 0
    · have : len = 0 := by omega
      subst this; subst hcap
      simpa using VR.nils .non (some a) (by simp)
    · have hs0 : a.spot = none := h4 (fun e => by subst e; simp at h1; omega) rfl
      obtain ⟨b, o, s⟩ := a
      simp at hs0
      subst hs0
      obtain ⟨f1, f2, g1, g2, g3⟩ := flatQ_split (a := (xs.take len).map emb) (b := (xs.drop len).map emb) (by rw [← List.map_append, List.take_append_drop]; exact h3)
      rw [g3] at h5
      have := VR.slice (G := gh0 W) ((xs.take len).map emb) .non f1 b o cap (P.cellsOf e) (by simp; omega) g1 (by simpa using h5.left) trivial
        (sizesOk_mem.2 fun z hz => by
          obtain ⟨x, _, rfl⟩ := List.mem_map.1 hz
          exact ⟨_, hcl x⟩)
      simpa [hxl, List.length_map, Nat.min_eq_left (show len ≤ xs.length by omega)] using this
  · have hi := (List.getElem?_eq_some_iff.1 hx).1
    rw [hxl] at hi
    rw [List.getElem?_take_of_lt hi] at hx
    obtain ⟨y, hy, hq⟩ := h2 i x hx
    rw [List.getElem?_append_left (by omega)] at hy
    exact ⟨y, hy, hq⟩
end

/-- what a call gives back where it has made nothing that stays -/
theorem finish_same {S S' : St} {v : AV} (hv : v.sealed = true) (hs : v.strip S.T.length = v) (hl : v.low S.H.length S.T.length = true) (hH : S'.H.length = S.H.length) (hT : S'.T = S.T) : finish S v S' = some (v, S') := by
  unfold finish
  rw [if_pos hv, hs]
  split
  · rename_i h
    simp only [Bool.and_eq_true] at h
    obtain ⟨⟨h1, _⟩, _⟩ := h
    have := boxEqL_spec _ _ h1
    rw [← hH, List.take_length] at this
    obtain ⟨H, T⟩ := S
    obtain ⟨H', T'⟩ := S'
    simp_all
  · rfl

/-- ROUNDS: what holds ahead of round i holds ahead of the next one; the last one ends the loop. -/
theorem iter_range {body : FS → Option (Out × FS)} {I : Nat → FS → Prop} {Q : Out × FS → Prop} {len : Nat} (hstep : ∀ i, i < len → ∀ fs, I i fs → ∃ fs', body fs = some (.norm, fs') ∧ I (i + 1) fs')
    (hend : ∀ fs, I len fs → ∃ o fs', body fs = some (o, fs') ∧ o ≠ .norm ∧ Q (o, fs')) : ∀ (k i L : Nat) (fs : FS), i + k = len → k < L → I i fs → ∃ r, iter L body fs = some r ∧ Q r
  | 0, i, L, fs, he, hL, hI => by
    obtain ⟨L, rfl⟩ : ∃ m, L = m + 1 := ⟨L - 1, by omega⟩
    simp at he
    subst he
    obtain ⟨o, fs', h1, h2, h3⟩ := hend fs hI
    refine ⟨(o, fs'), ?_, h3⟩
    simp only [iter, h1]
    cases o <;> first | rfl | exact absurd rfl h2
  | k + 1, i, L, fs, he, hL, hI => by
    obtain ⟨L, rfl⟩ : ∃ m, L = m + 1 := ⟨L - 1, by omega⟩
    obtain ⟨fs', h1, h2⟩ := hstep i (by omega) fs hI
    obtain ⟨r, h3, h4⟩ := iter_range hstep hend k (i + 1) L fs' (by omega) (by omega) h2
    exact ⟨r, by simp only [iter, h1]; exact h3, h4⟩

/-- into a function, its body in parts -/
theorem ev_enter {P : Program} {E : Env} {n : Nat} {f : FuncId} {args : List AV} {S : St} {fn : Func} {c : Code} (hok : E.ok f = true) (hf : P.funcs[f]? = some fn) (hb : fn.body = some c)
    (hn : args.length ≤ fn.ntmps) (hname : (fn.name == "runtime.NumGoroutine") = false) :
    ev P E (n + 1) f args S = fromBody P ⟨P, E.esc f, n⟩ S fn.results.toList (evCode ⟨P, E.esc f, n⟩ (ev P E n) (E.ps f) n c ⟨argsA args, fun _ => (0, []), 0, S⟩) := by
  rw [ev, if_pos hok, evFunc, hf]
  simp only [hb]
  rw [if_pos ⟨hn, hname⟩]

/-- an answer for each that it holds of: for a rewrite with a condition -/
theorem skolem {p : FS → Prop} {q : FS → FS → Prop} (h : ∀ x, p x → ∃ y, q x y) : ∃ F : FS → FS, ∀ x, p x → q x (F x) := by
  classical
  exact ⟨fun x => if h' : p x then (h x h').choose else x, fun x hx => by
    have := (h x hx).choose_spec
    simp only [dif_pos hx]
    exact this⟩

/-- a part of a text: the first or the second of two; what a block or a loop holds -/
def cutC (c : Code) : List Nat → Code
  | [] => c
  | i :: l => match c with
    | .seq x y => if i = 0 then cutC x l else cutC y l
    | .cond _ x y => if i = 0 then cutC x l else cutC y l
    | .block _ x => cutC x l
    | .loop x => cutC x l
    | _ => .skip
def bodyOf (fn : Func) : Code := match fn.body with
  | some c => c | none => .skip
theorem codeOk_body {fn fn' : Func} {c : Code} {ps : Nat → List (Nat × Nat)} (hf : some fn' = some fn) (hb : fn.body = some c) (h : codeOk fn'.ntmps ps (bodyOf fn') = true) : codeOk fn.ntmps ps c = true := by
  cases hf
  unfold bodyOf at h
  rw [hb] at h
  exact h

/-! ### the row -/
section
variable {H : Type} {enc : TypeId × Value → H} {P : Program}

theorem trodAll_stays (hl : laidOutB P = true) {W W' : World} (hb : Below W.heap.size W W') {sp : Nat → Bool} : ∀ {ts : List TypeId} {vs : List Value} {ds : List (DataW H)} {ps : List MemPlace}, (∀ t ∈ ts, P.readableRec t = true ∧ t < P.types.size) →
    DataW.TrodAll enc P W 0 (fun _ => true) true ts vs ds ps → (∀ x ∈ ps, x.block < W.heap.size) → (∀ x ∈ ps, sp x.block = true) → DataW.TrodAll enc P W' 0 sp true ts vs ds ps
  | [], _, _, _, _, h, _, _ => by
    obtain ⟨rfl, rfl, rfl⟩ := trodAll_nil h
    exact trodAll_mk0
  | t :: ts, _, _, _, hr, h, hlt, hsp => by
    obtain ⟨v, vs, d, ds, p, q, rfl, rfl, rfl, h0, r0⟩ := trodAll_cons h
    obtain ⟨h1, h2⟩ := hr t (by simp)
    exact trodAll_cons_mk (WideElems.Trod_stays hl h1 h2 h0 (fun x hx => hb.same (hlt x (by simp [hx]))) fun x hx => hsp x (by simp [hx]))
      (trodAll_stays hl hb (fun t ht => hr t (by simp [ht])) r0 (fun x hx => hlt x (by simp [hx])) fun x hx => hsp x (by simp [hx]))

/-- A LAW's ROW: it returned true; below the heap's old size nothing has turned; its variables are none. -/
theorem post_law {f : Func} {s : ChangeSpec} {apart fresh handsOn again : Bool} {W W' : World} {args : Array Value} {ds gs : List (DataW H)} {before : List MemPlace} {tb : TypeId} (hl : laidOutB P = true)
    (hW : DataW.Whole enc P f.params.toList s.vars apart W args.toList ds gs before) (hvars : s.vars = []) (hty : ∀ t ∈ f.params.toList, P.readableRec t = true ∧ t < P.types.size)
    (hres : f.resultTypes = #[tb]) (htb : P.underlying tb = some .bool) (hspec : s.fn H (ds ++ gs) = { results := [.lit (.bool true)], args := ds }) (hb : Below W.heap.size W W') :
    s.post enc P f apart fresh handsOn again W args (.bool true) W' := by
  have hlt := fun p hp => hW.lt p hp
  have hW0 := hW
  obtain ⟨p, q, hA, hV, rfl, hz, hn⟩ := hW
  rw [hvars] at hV
  obtain ⟨rfl, rfl⟩ := trodVars_none hV
  have hr : ∀ (b : Nat) (sp : Nat → Bool) (hd : Bool), DataW.TrodAll enc P W' b sp hd f.resultTypes.toList ((Value.bool true).resultList f.resultTypes.size) (s.fn H (ds ++ [])).results [] := fun b sp hd => by
    rw [hspec, hres]
    exact trodAll_cons_mk (shut_bool htb _) trodAll_mk0
  have ha : ∀ sp : Nat → Bool, (∀ x ∈ p ++ [], sp x.block = true) → DataW.TrodAll enc P W' 0 sp true f.params.toList args.toList (s.fn H (ds ++ [])).args p := fun sp hsp => by
    rw [hspec]
    exact trodAll_stays hl hb hty hA (fun x hx => hlt x (by simp [hx])) fun x hx => hsp x (by simp [hx])
  have hv : ∀ sp : Nat → Bool, DataW.TrodVars enc P W' sp s.vars (s.fn H (ds ++ [])).vars [] := fun sp => by
    rw [hspec, hvars]
    rfl
  have hold : ∀ x ∈ p ++ [], (fun b => decide (b < W.heap.size)) x.block = true := fun x hx => by simpa using hlt x hx
  refine ⟨ds, [], p ++ [], [], p, [], hW0, hr _ _ _, ha _ hold, hv _, World.keptBut_mono (fun x hx => ⟨hx, ?_⟩) (hb.frame (· ∈ p ++ [])), fun _ => ?_⟩
  · simpa using hx
  · refine ⟨ok_one hres rfl (okWide_bool_mk htb _), _, _, ([] ++ p) ++ [], ⟨[] ++ p, [], trodAll_append (ha _ (fun _ _ => rfl)) (hr _ _ _), hv _, rfl, ?_, ?_⟩, ?_⟩
    · intro b off hp
      have hp' : MemPlace.cell b off ∈ p ++ [] := by simpa using hp
      rw [hb.frozen (p := ⟨b, off, none⟩) (hlt _ hp')]
      exact hz b off hp'
    · intro h
      simpa using hn h
    · intro x hx _
      simpa using hx
end
end Go.Proofs.Ytemggoaefohliaa.AE

/- An evaluation by rewriting: where a test is not known, both roads are gone, one behind 'if', one behind 'else'. No condition. -/
namespace Go.Proofs.Ytemggoaefohliaa.AE
set_option linter.unusedVariables false
set_option linter.unusedSimpArgs false
open Go

section
variable {cx : Ctx} {call : Cal} {ps : Nat → List (Nat × Nat)} {L : Nat} {fs : FS}

/-! ### what comes behind -/
def seqK (r : Option (Out × FS)) (k : FS → Option (Out × FS)) : Option (Out × FS) :=
  match r with
  | some (.norm, fs') => k fs'
  | r => r
def condK (c : AV) (f g : FS → Option (Out × FS)) (fs : FS) : Option (Out × FS) :=
  match c with
  | .bool true => f fs | .bool false => g fs | _ => none
def blockK (id : Nat) (r : Option (Out × FS)) : Option (Out × FS) :=
  match r with
  | some (.exit k, fs') => if k = id then some (.norm, fs') else some (.exit k, fs')
  | r => r
def stepK (r : Option OutS) (k : FS → Option OutS) : Option OutS :=
  match r with
  | some (.ok fs' _) => k fs'
  | r => r
def drawK (fps : List FP) (r : Option OutS) (k : FS → List FP → Option (FS × List FP)) : Option (FS × List FP) :=
  match r with
  | some (.ok fs' fp) => k fs' (fps ++ [fp])
  | _ => none
def opK (o : Oper) (r : Option OR) (fs : FS) : Option OutS :=
  match r with
  | some (.val v b S fp) => some (.ok ⟨putA fs.t o.dst v, b, fs.c, S⟩ fp)
  | some (.pan v S) => some (.pan v ⟨fs.t, fs.b, fs.c, S⟩)
  | none => none
def wantK (w : Option Bool) (f g : FS → Option OutS) (fs : FS) : Option OutS :=
  match w with
  | some true => f fs | some false => g fs | none => none

theorem seqK_ite (c : Prop) [Decidable c] (a b : Option (Out × FS)) (k : FS → Option (Out × FS)) : seqK (if c then a else b) k = if c then seqK a k else seqK b k := by split <;> rfl
theorem seqK_none (k : FS → Option (Out × FS)) : seqK none k = none := rfl
theorem seqK_norm (fs : FS) (k : FS → Option (Out × FS)) : seqK (some (.norm, fs)) k = k fs := rfl
theorem seqK_ret (fs : FS) (k : FS → Option (Out × FS)) : seqK (some (.ret, fs)) k = some (.ret, fs) := rfl
theorem seqK_exit (id : Nat) (fs : FS) (k : FS → Option (Out × FS)) : seqK (some (.exit id, fs)) k = some (.exit id, fs) := rfl
theorem seqK_pan (v : AV) (fs : FS) (k : FS → Option (Out × FS)) : seqK (some (.pan v, fs)) k = some (.pan v, fs) := rfl
theorem condK_bool (b : Bool) (f g : FS → Option (Out × FS)) (fs : FS) : condK (.bool b) f g fs = if b = true then f fs else g fs := by cases b <;> rfl
theorem condK_true (f g : FS → Option (Out × FS)) (fs : FS) : condK (.bool true) f g fs = f fs := rfl
theorem condK_false (f g : FS → Option (Out × FS)) (fs : FS) : condK (.bool false) f g fs = g fs := rfl
theorem blockK_ite (id : Nat) (c : Prop) [Decidable c] (a b : Option (Out × FS)) : blockK id (if c then a else b) = if c then blockK id a else blockK id b := by split <;> rfl
theorem blockK_none (id : Nat) : blockK id none = none := rfl
theorem blockK_norm (id : Nat) (fs : FS) : blockK id (some (.norm, fs)) = some (.norm, fs) := rfl
theorem blockK_ret (id : Nat) (fs : FS) : blockK id (some (.ret, fs)) = some (.ret, fs) := rfl
theorem blockK_exit (id k : Nat) (fs : FS) : blockK id (some (.exit k, fs)) = if k = id then some (.norm, fs) else some (.exit k, fs) := rfl
theorem blockK_pan (id : Nat) (v : AV) (fs : FS) : blockK id (some (.pan v, fs)) = some (.pan v, fs) := rfl
theorem stepK_ite (c : Prop) [Decidable c] (a b : Option OutS) (k : FS → Option OutS) : stepK (if c then a else b) k = if c then stepK a k else stepK b k := by split <;> rfl
theorem stepK_none (k : FS → Option OutS) : stepK none k = none := rfl
theorem stepK_ok (fs : FS) (fp : FP) (k : FS → Option OutS) : stepK (some (.ok fs fp)) k = k fs := rfl
theorem stepK_pan (v : AV) (fs : FS) (k : FS → Option OutS) : stepK (some (.pan v fs)) k = some (.pan v fs) := rfl
theorem drawK_ite (fps : List FP) (c : Prop) [Decidable c] (a b : Option OutS) (k : FS → List FP → Option (FS × List FP)) : drawK fps (if c then a else b) k = if c then drawK fps a k else drawK fps b k := by split <;> rfl
theorem drawK_none (fps : List FP) (k : FS → List FP → Option (FS × List FP)) : drawK fps none k = none := rfl
theorem drawK_ok (fps : List FP) (fs : FS) (fp : FP) (k : FS → List FP → Option (FS × List FP)) : drawK fps (some (.ok fs fp)) k = k fs (fps ++ [fp]) := rfl
theorem drawK_pan (fps : List FP) (v : AV) (fs : FS) (k : FS → List FP → Option (FS × List FP)) : drawK fps (some (.pan v fs)) k = none := rfl
theorem opK_ite (o : Oper) (c : Prop) [Decidable c] (a b : Option OR) (fs : FS) : opK o (if c then a else b) fs = if c then opK o a fs else opK o b fs := by split <;> rfl
theorem opK_none (o : Oper) (fs : FS) : opK o none fs = none := rfl
theorem opK_val (o : Oper) (v : AV) (b : Nat → Nat × List AV) (S : St) (fp : FP) (fs : FS) : opK o (some (.val v b S fp)) fs = some (.ok ⟨putA fs.t o.dst v, b, fs.c, S⟩ fp) := rfl
theorem opK_pan (o : Oper) (v : AV) (S : St) (fs : FS) : opK o (some (.pan v S)) fs = some (.pan v ⟨fs.t, fs.b, fs.c, S⟩) := rfl
theorem wantK_some (b : Bool) (f g : FS → Option OutS) (fs : FS) : wantK (some b) f g fs = if b = true then f fs else g fs := by cases b <;> rfl
theorem wantK_true (f g : FS → Option OutS) (fs : FS) : wantK (some true) f g fs = f fs := rfl
theorem wantK_false (f g : FS → Option OutS) (fs : FS) : wantK (some false) f g fs = g fs := rfl
theorem afterRegion_ite (n : Nat) (c : Prop) [Decidable c] (a b : Option OutS) : afterRegion n (if c then a else b) = if c then afterRegion n a else afterRegion n b := by split <;> rfl
theorem afterDraw_ite (n : Nat) (qs : List (Nat × Nat)) (c : Prop) [Decidable c] (a b : Option (FS × List FP)) : afterDraw n qs (if c then a else b) = if c then afterDraw n qs a else afterDraw n qs b := by split <;> rfl
theorem fromBody_ite (P : Program) (S : St) (rs : List ResultVar) (c : Prop) [Decidable c] (a b : Option (Out × FS)) : fromBody P cx S rs (if c then a else b) = if c then fromBody P cx S rs a else fromBody P cx S rs b := by split <;> rfl
theorem ite_bool (c : Prop) [Decidable c] (a b : Bool) : (if c then AV.bool a else AV.bool b) = AV.bool (if c then a else b) := by split <;> rfl
theorem ite_int (c : Prop) [Decidable c] (k : IntKind) (a b : Int) : (if c then AV.int k a else AV.int k b) = AV.int k (if c then a else b) := by split <;> rfl

/-! ### a text, one step -/
def doOp (cx : Ctx) (call : Cal) (i : Nat) (o : Oper) (fs : FS) : Option OutS := opK o (evOp cx call i o fs) fs
def noOp (o : Oper) (fs : FS) : Option OutS := some (.ok ⟨putA fs.t o.dst .undef, fs.b, fs.c, fs.S⟩ .non)

theorem stepA_K (ops : Array Oper) (i : Nat) (o : Oper) : stepA cx call ops i o fs = wantK (wantedA o.guard ops fs.t) (doOp cx call i o) (noOp o) fs := by
  unfold stepA wantK doOp noOp opK
  generalize wantedA o.guard ops fs.t = w
  cases w with
  | none => rfl
  | some b => cases b <;> rfl
theorem lexA_nil (ops : Array Oper) (i : Nat) : lexA cx call ops i [] fs = some (.ok fs .non) := rfl
theorem lexA_cons (ops : Array Oper) (i : Nat) (o : Oper) (l : List Oper) : lexA cx call ops i (o :: l) fs = stepK (stepA cx call ops i o fs) (lexA cx call ops (i + 1) l) := by
  rw [lexA]
  generalize stepA cx call ops i o fs = r
  match r with
  | none => rfl
  | some (.ok _ _) => rfl
  | some (.pan _ _) => rfl
theorem lexF_nil (ops : Array Oper) (i : Nat) (fps : List FP) : lexF cx call ops i [] fs fps = some (fs, fps) := rfl
theorem lexF_cons (ops : Array Oper) (i : Nat) (o : Oper) (l : List Oper) (fps : List FP) : lexF cx call ops i (o :: l) fs fps = drawK fps (stepA cx call ops i o fs) (lexF cx call ops (i + 1) l) := by
  rw [lexF]
  generalize stepA cx call ops i o fs = r
  match r with
  | none => rfl
  | some (.ok _ _) => rfl
  | some (.pan _ _) => rfl
theorem evCode_skip : evCode cx call ps L .skip fs = some (.norm, fs) := rfl
theorem evCode_region (id : Nat) (ops : Array Oper) : evCode cx call ps L (.region id ops false) fs = afterRegion ops.size (lexA cx call ops 0 ops.toList fs) := rfl
theorem evCode_draw (id : Nat) (ops : Array Oper) : evCode cx call ps L (.region id ops true) fs = afterDraw ops.size (ps id) (lexF cx call ops 0 ops.toList fs []) := rfl
theorem evCode_seq (x y : Code) : evCode cx call ps L (.seq x y) fs = seqK (evCode cx call ps L x fs) (evCode cx call ps L y) := by
  rw [evCode]
  generalize evCode cx call ps L x fs = r
  match r with
  | none => rfl
  | some (.norm, _) => rfl
  | some (.ret, _) => rfl
  | some (.exit _, _) => rfl
  | some (.pan _, _) => rfl
theorem evCode_cond (c : Operand) (x y : Code) : evCode cx call ps L (.cond c x y) fs = condK (rho fs.t c) (evCode cx call ps L x) (evCode cx call ps L y) fs := by
  rw [evCode]
  rfl
theorem evCode_block (id : Nat) (c : Code) : evCode cx call ps L (.block id c) fs = blockK id (evCode cx call ps L c fs) := by
  rw [evCode]
  generalize evCode cx call ps L c fs = r
  match r with
  | none => rfl
  | some (.norm, _) => rfl
  | some (.ret, _) => rfl
  | some (.exit _, _) => rfl
  | some (.pan _, _) => rfl
theorem evCode_loop (c : Code) : evCode cx call ps L (.loop c) fs = iter L (evCode cx call ps L c) fs := rfl
theorem evCode_exit (id : Nat) : evCode cx call ps L (.exit id) fs = some (.exit id, fs) := rfl
theorem evCode_ret : evCode cx call ps L .ret fs = some (.ret, fs) := rfl
end

/-! ### plain operations, one by one -/
section
variable {bq : Bool} {k : IntKind} {a b : Int} {p q : Bool} {s t : List UInt8}
theorem evBin_add : evBin bq .add (.int k a) (.int k b) = some (.int k (k.wrap (a + b))) := by simp [evBin]
theorem evBin_sub : evBin bq .sub (.int k a) (.int k b) = some (.int k (k.wrap (a - b))) := by simp [evBin]
theorem evBin_mul : evBin bq .mul (.int k a) (.int k b) = some (.int k (k.wrap (a * b))) := by simp [evBin]
theorem evBin_quo (h : b ≠ 0) : evBin bq .quo (.int k a) (.int k b) = some (.int k (k.wrap (a.tdiv b))) := by simp [evBin, h]
theorem evBin_rem (h : b ≠ 0) : evBin bq .rem (.int k a) (.int k b) = some (.int k (a.tmod b)) := by simp [evBin, h]
theorem evBin_eql : evBin bq .eql (.int k a) (.int k b) = some (.bool (a == b)) := by simp [evBin]
theorem evBin_neq : evBin bq .neq (.int k a) (.int k b) = some (.bool (a != b)) := by simp [evBin]
theorem evBin_lss : evBin bq .lss (.int k a) (.int k b) = some (.bool (decide (a < b))) := by simp [evBin]
theorem evBin_leq : evBin bq .leq (.int k a) (.int k b) = some (.bool (decide (a ≤ b))) := by simp [evBin]
theorem evBin_gtr : evBin bq .gtr (.int k a) (.int k b) = some (.bool (decide (b < a))) := by simp [evBin]
theorem evBin_geq : evBin bq .geq (.int k a) (.int k b) = some (.bool (decide (b ≤ a))) := by simp [evBin]
theorem evBin_eqlB : evBin true .eql (.bool p) (.bool q) = some (.bool (p == q)) := by simp [evBin]
theorem evBin_neqB : evBin true .neq (.bool p) (.bool q) = some (.bool (!(p == q))) := by simp [evBin]
theorem evBin_addS (h : s.length + t.length ≤ 4611686018427387904) : evBin bq .add (.str s) (.str t) = some (.str (s ++ t)) := by simp [evBin, h]
theorem evBin_eqlS : evBin bq .eql (.str s) (.str t) = some (.bool (s == t)) := by simp [evBin]
theorem evBin_neqS : evBin bq .neq (.str s) (.str t) = some (.bool (!(s == t))) := by simp [evBin]
theorem evBin_lssS : evBin bq .lss (.str s) (.str t) = some (.bool (Op.bytesLess s t)) := by simp [evBin]
theorem evBin_leqS : evBin bq .leq (.str s) (.str t) = some (.bool (Op.bytesLess s t || s == t)) := by simp [evBin]
end
end Go.Proofs.Ytemggoaefohliaa.AE

/- A callee by its contract: what it leaves of the world is what it found; texts in a row. No condition. -/
namespace Go.Proofs.Ytemggoaefohliaa.AE
set_option linter.unusedVariables false
set_option linter.unusedSimpArgs false
open Go Go.RowKit

/-! ### parts of a struct or a slice, one by one (as a step ahead of the parts: simp would go under the map's binder and unfold all temporaries there) -/
def rhoP (t : Nat → AV) : List (Nat × Operand) → List (Nat × AV)
  | [] => []
  | (i, o) :: l => (i, rho t o) :: rhoP t l
theorem rhoP_nil (t : Nat → AV) : rhoP t [] = [] := rfl
theorem rhoP_cons (t : Nat → AV) (i : Nat) (o : Operand) (l : List (Nat × Operand)) : rhoP t ((i, o) :: l) = (i, rho t o) :: rhoP t l := rfl
theorem rhoP_map (t : Nat → AV) : ∀ l : List (Nat × Operand), (l.map fun p => (p.1, rho t p.2)) = rhoP t l
  | [] => rfl
  | (i, o) :: l => by rw [List.map_cons, rhoP_map t l, rhoP_cons]
section
variable {cx : Ctx} {call : Cal} {k : Nat} {fs : FS} {dst : Option Tmp} {ty0 : TypeId} {pos : String} {after : Array Edge} {guard : Option (Nat × Bool)}
theorem evOp_build (t : TypeId) (parts : Array (Nat × Operand)) : evOp cx call k { dst := dst, op := .build t parts, type := ty0, pos := pos, after := after, guard := guard } fs = goOp fs.S fs.b (evBuild cx.P t (rhoP fs.t parts.toList)) := by
  rw [← rhoP_map]; rfl
theorem evOp_bslice (t : TypeId) (len : Nat) (parts : Array (Nat × Operand)) : evOp cx call k { dst := dst, op := .buildSlice t len parts, type := ty0, pos := pos, after := after, guard := guard } fs = goOp fs.S fs.b (evBuildSlice cx.P t len (rhoP fs.t parts.toList)) := by
  rw [← rhoP_map]; rfl
end

/-- a world that has grown and turned nothing -/
theorem Inv.grow {w0 : World} {B : Nat} {G : Gh} {S : St} {w w' : World} (hi : Inv w0 B G S w) (hb : Below w.heap.size w w') : Inv w0 B G S w' ∧ Ext G w G w' := by
  have hlt : ∀ b o v, G.I b o = some v → b < w.heap.size := fun b o v h => World.block_lt_of_cell? w _ (hi.imm b o v h)
  have hbl : ∀ (k : Nat) o, w.heap[k]? = some o → w'.heap[k]? = some o := fun k o h => by
    rw [hb.block k (Array.getElem?_eq_some_iff.1 h).1, h]
  refine ⟨⟨hi.below.trans (hb.mono hi.base), Nat.le_trans hi.base hb.size, fun b o v h => ?_, hi.fr, fun i bx h => ?_, hi.phid, hi.phij, fun t n h => ?_, hi.taud, hi.tauj⟩,
    ⟨.refl G, hb.size, fun _ _ h => .inl h, fun _ _ h => .inl h, fun _ _ _ h => .inl h, fun b h _ _ => hb.block b h⟩⟩
  · rw [hb.cell (p := ⟨b, o, none⟩) (hlt b o v h)]
    exact hi.imm b o v h
  · obtain ⟨b, vs, j1, j2, j3, j4, j5, j6, j7, j8⟩ := hi.box i bx h
    exact ⟨b, vs, j1, j2, hbl _ _ j3, j4, j5, j6, j7, j8⟩
  · obtain ⟨b, m, vs, ty, fz, j1, j2, j3, j4, j5, j6, j7⟩ := hi.tok t n h
    refine ⟨b, m, vs, ty, fz, j1, j2, hbl _ _ j3, j4, j5, fun o ho => ?_, j7⟩
    rw [hb.frozen (p := ⟨b, o, none⟩) (Array.getElem?_eq_some_iff.1 j3).1]
    exact j6 o ho

/-- ROUNDS, each of less than the one ahead; any of them may end the loop. -/
theorem iter_meas {body : FS → Option (Out × FS)} {I : Nat → FS → Prop} {Q : Out × FS → Prop}
    (h : ∀ m fs, I m fs → ∃ o fs', body fs = some (o, fs') ∧ ((o = .norm ∧ ∃ m', m' < m ∧ I m' fs') ∨ (o ≠ .norm ∧ Q (o, fs')))) : ∀ (m L : Nat) (fs : FS), m < L → I m fs → ∃ r, iter L body fs = some r ∧ Q r := by
  intro m
  induction m using Nat.strongRecOn with
  | _ m ih =>
  intro L fs hL hI
  obtain ⟨L, rfl⟩ : ∃ k, L = k + 1 := ⟨L - 1, by omega⟩
  obtain ⟨o, fs', h1, h2⟩ := h m fs hI
  rcases h2 with ⟨rfl, m', hm, hI'⟩ | ⟨ho, hq⟩
  · obtain ⟨r, h3, h4⟩ := ih m' hm L fs' (by omega) hI'
    exact ⟨r, by simp only [iter, h1]; exact h3, h4⟩
  · refine ⟨(o, fs'), ?_, hq⟩
    simp only [iter, h1]
    cases o <;> first | rfl | exact absurd rfl ho

/-- likewise: for a rewrite with a condition -/
theorem skolemR {p : FS → Prop} {q : FS → Out × FS → Prop} (h : ∀ x, p x → ∃ y, q x y) : ∃ F : FS → Out × FS, ∀ x, p x → q x (F x) := by
  classical
  exact ⟨fun x => if h' : p x then (h x h').choose else (.norm, x), fun x hx => by
    have := (h x hx).choose_spec
    simp only [dif_pos hx]
    exact this⟩

def strsOf : List AV → Option (List (List UInt8))
  | [] => some []
  | .str s :: l => match strsOf l with
    | some r => some (s :: r) | none => none
  | _ :: _ => none

theorem strsOf_map : ∀ l : List (List UInt8), strsOf (l.map AV.str) = some l
  | [] => rfl
  | s :: l => by simp [strsOf, strsOf_map l]

theorem strsOf_inv : ∀ {es : List AV} {l : List (List UInt8)}, strsOf es = some l → es = l.map AV.str
  | [], l, h => by simp [strsOf] at h; subst h; rfl
  | .str s :: es, l, h => by
    simp only [strsOf] at h
    split at h
    · rename_i r hr
      cases h
      rw [strsOf_inv hr]; rfl
    · cases h
  | .junk :: _, _, h => by simp [strsOf] at h
  | .undef :: _, _, h => by simp [strsOf] at h
  | .bool _ :: _, _, h => by simp [strsOf] at h
  | .int _ _ :: _, _, h => by simp [strsOf] at h
  | .agg _ :: _, _, h => by simp [strsOf] at h
  | .tup _ :: _, _, h => by simp [strsOf] at h
  | .slice _ _ :: _, _, h => by simp [strsOf] at h
  | .nilp :: _, _, h => by simp [strsOf] at h
  | .ref _ :: _, _, h => by simp [strsOf] at h
  | .loc .. :: _, _, h => by simp [strsOf] at h
  | .ptr .. :: _, _, h => by simp [strsOf] at h
  | .fn .. :: _, _, h => by simp [strsOf] at h
  | .iface .. :: _, _, h => by simp [strsOf] at h
  | .nilif :: _, _, h => by simp [strsOf] at h

theorem flatQ_strs : ∀ l : List (List UInt8), flatQ (l.map AV.str) = some (l.map AV.str)
  | [] => rfl
  | s :: l => by simp [flatQ, AV.cells?, flatQ_strs l]

theorem VRL_strs {G : Gh} : ∀ {l : List (List UInt8)} {vs : List Value}, VRL G (l.map AV.str) vs → ∃ xs : List ByteArray, vs = xs.map Value.string ∧ xs.map (·.data.toList) = l
  | [], vs, h => by cases h; exact ⟨[], rfl, rfl⟩
  | s :: l, vs, h => by
    cases h with
    | cons _ v _ m ha hl =>
      obtain ⟨p, rfl, rfl⟩ := ha.inv_str
      obtain ⟨xs, rfl, rfl⟩ := VRL_strs hl
      exact ⟨p :: xs, rfl, rfl⟩
end Go.Proofs.Ytemggoaefohliaa.AE

