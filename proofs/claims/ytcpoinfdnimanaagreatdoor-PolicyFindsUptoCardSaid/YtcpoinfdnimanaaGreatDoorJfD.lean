/- Joined: AeR, AeO, AeP, AeQ, AeS, AeZ. No condition beyond those of its lemmas. -/
import Derived.Test.YtcpoinfdnimanaaGreatDoorJfC
import Derived.Recover
import Derived.ChangeArms
import Derived.OpenShut
import Derived.Carry
import Derived.RowKit
/- Deferred calls, and 'recover': the evaluator's are the model's; THE EVALUATOR IS SOUND. Condition: the checks 'codeOk' of the functions that it follows. -/
namespace Go.Proofs.YtcpoinfdnimanaaGreatDoor.AE
set_option linter.unusedVariables false
set_option linter.unusedSimpArgs false
open Go Go.RowKit

/-! ### rows of operations, on and on -/
theorem seqA_app {F : Fix} {nt : Nat} {call : Cal} {ops : Array Oper} (hd : ∀ (i : Nat) o, ops[i]? = some o → ∀ d, o.dst = some d → d < nt) (hc : CalOK F.cx.P call F.cx.dep) (l2 : List Nat) (Q : Exit → Act → World → Prop) : ∀ (l : List Nat) (D : Nat → Prop) (fs : FS) (G : Gh) (a : Act) (w : World), l.Nodup → (∀ i ∈ l, ¬ D i) →
    FR F nt D fs G a w → ∀ fs' fp, seqA F.cx call ops l fs = some (.ok fs' fp) → (∀ G' a' w', FR F nt (fun j => D j ∨ j ∈ l) fs' G' a' w' → wpOps F.cx.P ops Q l2 a' w') → wpOps F.cx.P ops Q (l ++ l2) a w
  | [], D, fs, G, a, w, _, _, h, fs', fp, hs, hq => by
    cases hs
    exact hq G a w (h.weak fun j hj => .inl hj)
  | i :: l, D, fs, G, a, w, hn, hD, h, fs', fp, hs, hq => by
    simp only [seqA] at hs
    split at hs
    · cases hs
    · rename_i o hi
      have hnd := List.nodup_cons.1 hn
      cases hst : stepA F.cx call ops i o fs with
      | none => rw [hst] at hs; cases hs
      | some s =>
        rw [hst] at hs
        have hok := stepA_sound hi h (hD i (by simp)) (hd i o hi) hc hst
        cases s with
        | ok fs1 fp1 =>
          simp only at hs
          rw [List.cons_append, wpOps_cons]
          refine hok _ Q fun G' a' w' h' => seqA_app hd hc l2 Q l (fun j => D j ∨ j = i) fs1 G' a' w' hnd.2 (fun j hj hj' => by
            rcases hj' with h1 | rfl
            · exact hD j (by simp [hj]) h1
            · exact hnd.1 hj) h' fs' fp hs fun G'' a'' w'' h'' => hq G'' a'' w'' (h''.weak fun j hj => ?_)
          rcases hj with (h1 | rfl) | h1
          · exact .inl h1
          · exact .inr (by simp)
          · exact .inr (by simp [h1])
        | pan v fs1 => cases hs

/-- likewise, in a deferred call -/
theorem seqA_S {F : Fix} {nt : Nat} {call : Cal} {ops : Array Oper} (hd : ∀ (i : Nat) o, ops[i]? = some o → ∀ d, o.dst = some d → d < nt) (hc : CalOK F.cx.P call F.cx.dep) (Q : Exit → Act → List Frame → World → Prop) (cs : List Frame) : ∀ (l : List Nat) (D : Nat → Prop) (fs : FS) (G : Gh) (a : Act) (w : World), l.Nodup → (∀ i ∈ l, ¬ D i) →
    FR F nt D fs G a w → ∀ fs' fp, seqA F.cx call ops l fs = some (.ok fs' fp) → (∀ G' a' w', FR F nt (fun j => D j ∨ j ∈ l) fs' G' a' w' → Q .normal a' cs w') → wpOpsS F.cx.P ops Q l a cs w
  | [], D, fs, G, a, w, _, _, h, fs', fp, hs, hq => by
    cases hs
    exact hq G a w (h.weak fun j hj => .inl hj)
  | i :: l, D, fs, G, a, w, hn, hD, h, fs', fp, hs, hq => by
    simp only [seqA] at hs
    split at hs
    · cases hs
    · rename_i o hi
      have hnd := List.nodup_cons.1 hn
      cases hst : stepA F.cx call ops i o fs with
      | none => rw [hst] at hs; cases hs
      | some s =>
        rw [hst] at hs
        have rest : ∀ fs1 fp1, s = .ok fs1 fp1 → ∀ G' a' w', FR F nt (fun j => D j ∨ j = i) fs1 G' a' w' → wpOpsS F.cx.P ops Q l a' cs w' := fun fs1 fp1 hs1 G' a' w' h' => by
          subst hs1
          simp only at hs
          refine seqA_S hd hc Q cs l (fun j => D j ∨ j = i) fs1 G' a' w' hnd.2 (fun j hj hj' => by
            rcases hj' with h1 | rfl
            · exact hD j (by simp [hj]) h1
            · exact hnd.1 hj) h' fs' fp hs fun G'' a'' w'' h'' => hq G'' a'' w'' (h''.weak fun j hj => ?_)
          rcases hj with (h1 | rfl) | h1
          · exact .inl h1
          · exact .inr (by simp)
          · exact .inr (by simp [h1])
        have hn' : G.nu F.cx.dep (fs.c + i + 1) = none := by
          cases hn : G.nu F.cx.dep (fs.c + i + 1) with
          | none => rfl
          | some k =>
            rcases h.nud (fs.c + i + 1) (by rw [hn]; simp) with h' | ⟨j, h1, h2⟩
            · omega
            · have : j = i := by omega
              subst this
              exact absurd h1 (hD j (by simp))
        simp only [wpOpsS, hi]
        unfold stepA at hst
        split at hst
        · rename_i hw
          have hw' := wantedA_spec rfl h.tm hw
          rw [if_pos hw']
          split at hst
          · rename_i v b S fp1 hev
            cases hst
            have hwp : o.wp F.cx.P a w (fun a' w' => wpOpsS F.cx.P ops Q l a' cs w') (fun e a' w' => Q e a' cs w') :=
              evOp_sound h.pre h.tm hn' h.nul hc hev _ _ fun G' w' v' hp => rest _ _ rfl G' _ w' (h.put (hd i o hi) hp)
            unfold Oper.wp at hwp
            split
            · rename_i w' hr
              rw [hr] at hwp
              exact hwp.elim
            · exact hwp
          · cases hst; cases hs
          · cases hst
        · rename_i hw
          have hw' := wantedA_spec rfl h.tm hw
          cases hst
          rw [if_neg (by rw [hw']; simp)]
          exact rest _ _ rfl G _ w (h.put (i := i) (v := .undef) (v' := undef) (hd i o hi) (Post.same h.pre .undef))
        · cases hst

/-! ### a deferred call -/
def modeD : Option Value → Bool → FrameMode
  | none, _ => .returning
  | some v, q => .panicking [{ v := v, recovered := q }]
def PvR (G : Gh) : Option AV → Option Value → Prop
  | none, none => True
  | some v, some v' => VR G v v'
  | _, _ => False
def AnsD (P : Program) (lim : Nat) (f : FuncId) (args : List AV) (S : St) (pv : Option AV) (q : Bool) (S' : St) : Prop :=
  (∃ fn, P.funcs[f]? = some fn ∧ (fn.name == "runtime.NumGoroutine") = false ∧ fn.body.isSome = true) ∧ (q = true → pv.isSome = true) ∧
  ∀ (w0 : World) (B : Nat) (G : Gh) (w : World) (vs : Array Value) (pv' : Option Value), Inv w0 B G S w → (∀ d v, d < lim → G.nu d v = none) → VRL G args vs.toList → PvR G pv pv' →
    CallsD P f vs (modeD pv' false) w fun e u' w' => (∃ v, e = .returned v) ∧ u' = modeD pv' q ∧ ∃ G', Inv w0 B G' S' w' ∧ Ext G w G' w' ∧ G'.nu = G.nu
def CalDOK (P : Program) (dc : CalD) (lim : Nat) : Prop := ∀ f args S pv q S', dc f args S pv = some (q, S') → AnsD P lim f args S pv q S'

theorem res_nil {P : Program} {fn : Func} (h : fn.results.toList.isEmpty = true) (tmps : Array Value) (w : World) : ∃ v, (results fn tmps).run P w = .ok v w := by
  have h0 : fn.results = #[] := by
    have := List.isEmpty_iff.1 h
    cases hr : fn.results with | mk l => rw [hr] at this; simp at this; rw [this]
  exact ⟨.tuple #[], by unfold results; rw [h0]; simp⟩

theorem cutR_spec {c : Code} {id : Nat} {ops : Array Oper} {d : Tmp} {y : Code} (h : cutR c = some (id, ops, d, y)) : c = .seq (.region id ops false) y ∧ ∃ o, ops[0]? = some o ∧ isRecover o = some d := by
  unfold cutR at h
  split at h
  · split at h
    · rename_i d' hb
      cases h
      obtain ⟨o, h1, h2⟩ := Option.bind_eq_some_iff.1 hb
      exact ⟨rfl, o, h1, h2⟩
    · cases h
  · cases h
theorem isRecover_spec {o : Oper} {d : Tmp} (h : isRecover o = some d) : o.dst = some d ∧ o.guard = none ∧ ∃ ts, o.op = .call ⟨.builtin .recover, #[], ts⟩ := by
  unfold isRecover at h
  split at h
  · rename_i args ts hop
    split at h
    · rename_i hc
      simp only [Bool.and_eq_true, Option.isNone_iff_eq_none, Array.isEmpty_iff] at hc
      obtain ⟨h1, rfl⟩ := hc
      exact ⟨h, h1, ts, hop⟩
    · cases h
  · cases h

theorem endD_some {P : Program} {S : St} {rs : List ResultVar} {q q' : Bool} {o : Option (Out × FS)} {S' : St} (h : endD P S rs q o = some (q', S')) :
    ∃ out fs v, o = some (out, fs) ∧ (out = .norm ∨ out = .ret) ∧ rs.isEmpty = true ∧ finish S (.tup []) fs.S = some (v, S') ∧ q' = q := by
  unfold endD at h
  split at h
  · rename_i fs
    split at h
    · rename_i hr
      split at h
      · rename_i v S2 hf
        cases h
        exact ⟨.norm, fs, v, rfl, .inl rfl, hr, hf, rfl⟩
      · cases h
    · cases h
  · rename_i fs
    split at h
    · rename_i hr
      split at h
      · rename_i v S2 hf
        cases h
        exact ⟨.ret, fs, v, rfl, .inr rfl, hr, hf, rfl⟩
      · cases h
    · cases h
  · cases h

theorem defer_sound {P : Program} {E : Env} (hE : EnvOK P E) {n : Nat} {call : Cal} (hcall : CalOK P call n) {f : FuncId} {args : List AV} {S : St} {pv : Option AV} {q : Bool} {S' : St} (hok : E.ok f = true) (h : evDefer P E call n f args S pv = some (q, S')) : AnsD P (n + 1) f args S pv q S' := by
  unfold evDefer at h
  split at h
  · cases h
  · rename_i fn hfn
    split at h
    · cases h
    · rename_i c hbody
      split at h
      · rename_i hcond
        have hcode := hE.code f fn c hok hfn hbody
        refine ⟨⟨fn, hfn, hcond.2, by simp [hbody]⟩, ?_⟩
        split at h
        · rename_i id ops d y hcut
          obtain ⟨rfl, o, ho, hrec⟩ := cutR_spec hcut
          obtain ⟨hdst, hg, ts, hop⟩ := isRecover_spec hrec
          split at h
          rotate_left 1
          · cases h
          rename_i fs1 fp1 hseq
          obtain ⟨out, fs, rv, hev, hout, hres, hfin, rfl⟩ := endD_some h
          refine ⟨fun h => h, fun w0 B G w vs pv' hi hnu hargs hpv => ?_⟩
          have hl := hargs.length
          simp at hl
          let F : Fix := { w0 := w0, B := B, Ge := G, we := w, Se := S, cx := ⟨P, E.esc f, n⟩, ie := hi }
          simp only [codeOk, Bool.and_eq_true, Bool.not_false, Bool.true_or] at hcode
          have hd : ∀ (i : Nat) o, ops[i]? = some o → ∀ d, o.dst = some d → d < fn.ntmps := fun i o ho d hd => by
            have := (Array.all_eq_true'.1 hcode.1.1) o (Array.mem_of_getElem? ho)
            rw [hd] at this
            simpa using this
          have hfr : FR F fn.ntmps (fun _ => False) ⟨argsA args, fun _ => (0, []), 0, S⟩ G { tmps := vs ++ Array.replicate (fn.ntmps - vs.size) undef, defers := [] } w :=
            ⟨⟨hi, .refl G w, ⟨fun d hd => absurd rfl hd, fun d e k hd => absurd rfl hd⟩⟩, fun x => args_VR hargs _ x, by simp; omega, rfl, fun d v hd => hnu d v (by have : d < n := hd; omega), fun v hv => absurd (hnu n v (by omega)) hv, fun _ _ _ => rfl, .refl G⟩
          have hrange : List.range ops.size = 0 :: List.range' 1 (ops.size - 1) := by
            have hpos : 0 < ops.size := by
              have := (Array.getElem?_eq_some_iff.1 ho).1; omega
            obtain ⟨k, hk⟩ : ∃ k, ops.size = k + 1 := ⟨ops.size - 1, by omega⟩
            rw [hk, List.range_eq_range', List.range'_succ]
            rfl
          refine callsD_of_wpS hfn hbody fun c₀ cs hu => ?_
          refine wpS_seq (wpS_region ?_)
          rw [hrange]
          have hrun : ∀ (a : Act) (w : World), (execOp a.eval o).run P w = .ok .recover w := fun a w => by
            simp [execOp, hop, resolve, invoke, builtin]
          -- behind 'recover': the caller's mode, and what was got
          have key : ∀ (u' : FrameMode) (cs' : List Frame) (gv : AV) (gv' : Value), cs' = { c₀ with mode := u' } :: cs → u' = modeD pv' pv.isSome → VR G gv gv' → gv = pvOf pv →
              wpOpsS P ops (Exit.thenS (y.wpS P (bodyPostS P fn c₀ cs fun e u' w' => (∃ v, e = .returned v) ∧ u' = modeD pv' pv.isSome ∧ ∃ G', Inv w0 B G' S' w' ∧ Ext G w G' w' ∧ G'.nu = G.nu)) (bodyPostS P fn c₀ cs fun e u' w' => (∃ v, e = .returned v) ∧ u' = modeD pv' pv.isSome ∧ ∃ G', Inv w0 B G' S' w' ∧ Ext G w G' w' ∧ G'.nu = G.nu)) (List.range' 1 (ops.size - 1)) (Act.put { tmps := vs ++ Array.replicate (fn.ntmps - vs.size) undef, defers := [] } o.dst gv') cs' w := by
            intro u' cs' gv gv' hcs hu' hgv hgve
            have hput := hfr.put (i := 0) (dst := o.dst) (v := gv) (v' := gv') (hd 0 o ho) (Post.same hfr.pre hgv)
            rw [hdst] at hput
            rw [hgve] at hput
            refine seqA_S (F := F) hd hcall _ cs' (List.range' 1 (ops.size - 1)) _ _ G _ w (List.nodup_range' (step := 1)) (fun i hi hj => ?_) (by rw [hdst]; exact hput) fs1 fp1 hseq fun G' a' w' hfr' => ?_
            · rcases hj with hj | hj
              · exact hj
              · subst hj; simp [List.mem_range'_1] at hi
            · have hfr1 : FR F fn.ntmps (fun _ => False) ⟨fs1.t, fs1.b, fs1.c + ops.size, fs1.S⟩ G' a' w' := FR.region (hfr'.weak fun j hj => by
                rcases hj with (hj | hj) | hj
                · exact hj.elim
                · subst hj; have := (Array.getElem?_eq_some_iff.1 ho).1; omega
                · simp [List.mem_range'_1] at hj; omega)
              show y.wpS P _ a' cs' w'
              refine wpS_of_wp ?_
              refine evCode_sound (F := F) hE.mixed hcall y hcode.2 _ _ hev G' a' w' hfr1 _ ?_
              have fin : ∀ (G'' : Gh) (a'' : Act) (w'' : World), FR F fn.ntmps (fun _ => False) fs G'' a'' w'' → a''.defers = [] ∧ ∃ u'', cs' = { c₀ with mode := u'' } :: cs ∧ ∃ v, (results fn a''.tmps).run P w'' = .ok v w'' ∧
                  ((∃ v', Ending.returned v = .returned v') ∧ u'' = modeD pv' pv.isSome ∧ ∃ G', Inv w0 B G' S' w'' ∧ Ext G w G' w'' ∧ G'.nu = G.nu) := fun G'' a'' w'' h'' => by
                obtain ⟨v, hv⟩ := res_nil (P := P) hres a''.tmps w''
                obtain ⟨G2, g1, g2, g3, _⟩ := finish_sound hi h''.pre.inv h''.pre.ext (VR.tup [] #[] .nil) hfin
                exact ⟨h''.df, u', hcs, v, hv, ⟨v, rfl⟩, hu', G2, g1, g2, g3⟩
              rcases hout with rfl | rfl
              · exact fin
              · exact fin
          simp only [wpOpsS, ho]
          have hwant : Region.wanted o (yielded ops (vs ++ Array.replicate (fn.ntmps - vs.size) undef)) = true := by simp [Region.wanted, hg]
          rw [if_pos hwant, hrun]
          simp only
          cases pv' with
          | none =>
            cases pv with
            | some v => exact hpv.elim
            | none =>
              have : recoverD (c₀ :: cs) = none := by simp [recoverD, hu, modeD]
              rw [this]
              exact key (modeD none false) _ _ _ (by rw [← hu]) rfl .nilif rfl
          | some pw =>
            cases pv with
            | none => exact hpv.elim
            | some v =>
              have : recoverD (c₀ :: cs) = some (pw, { c₀ with mode := .panicking ({ v := pw, recovered := true } :: []) } :: cs) := by simp [recoverD, hu, modeD]
              rw [this]
              exact key _ _ _ _ rfl rfl hpv rfl
        · obtain ⟨out, fs, rv, hev, hout, hres, hfin, rfl⟩ := endD_some h
          refine ⟨fun h => (by cases h), fun w0 B G w vs pv' hi hnu hargs hpv => ?_⟩
          have hl := hargs.length
          simp at hl
          let F : Fix := { w0 := w0, B := B, Ge := G, we := w, Se := S, cx := ⟨P, E.esc f, n⟩, ie := hi }
          have hfr : FR F fn.ntmps (fun _ => False) ⟨argsA args, fun _ => (0, []), 0, S⟩ G { tmps := vs ++ Array.replicate (fn.ntmps - vs.size) undef, defers := [] } w :=
            ⟨⟨hi, .refl G w, ⟨fun d hd => absurd rfl hd, fun d e k hd => absurd rfl hd⟩⟩, fun x => args_VR hargs _ x, by simp; omega, rfl, fun d v hd => hnu d v (by have : d < n := hd; omega), fun v hv => absurd (hnu n v (by omega)) hv, fun _ _ _ => rfl, .refl G⟩
          refine (callsD_of_wp (R := fun e w' => (∃ v, e = .returned v) ∧ ∃ G', Inv w0 B G' S' w' ∧ Ext G w G' w' ∧ G'.nu = G.nu) hfn hbody ?_).mono fun e u' w' ⟨h1, h2, h3⟩ => ⟨h2, h1, h3⟩
          refine evCode_sound (F := F) hE.mixed hcall c hcode _ _ hev G _ w hfr _ ?_
          have fin : ∀ (G'' : Gh) (a'' : Act) (w'' : World), FR F fn.ntmps (fun _ => False) fs G'' a'' w'' → a''.defers = [] ∧ ∃ v, (results fn a''.tmps).run P w'' = .ok v w'' ∧
              ((∃ v', Ending.returned v = .returned v') ∧ ∃ G', Inv w0 B G' S' w'' ∧ Ext G w G' w'' ∧ G'.nu = G.nu) := fun G'' a'' w'' h'' => by
            obtain ⟨v, hv⟩ := res_nil (P := P) hres a''.tmps w''
            obtain ⟨G2, g1, g2, g3, _⟩ := finish_sound hi h''.pre.inv h''.pre.ext (VR.tup [] #[] .nil) hfin
            exact ⟨h''.df, v, hv, ⟨v, rfl⟩, G2, g1, g2, g3⟩
          rcases hout with rfl | rfl
          · exact fin
          · exact fin
      · cases h

/-! ### a function that defers a call -/
theorem cutD_ok {nt : Nat} {ps : Nat → List (Nat × Nat)} : ∀ (c : Code) {A B : Code} {ops : Array Oper} {d : Call}, cutD c = some (A, ops, d, B) → codeOk nt ps c = true →
    (∀ (i : Nat) o, ops[i]? = some o → ∀ d, o.dst = some d → d < nt) ∧ codeOk nt ps B = true ∧ (∃ o, ops[ops.size - 1]? = some o ∧ 0 < ops.size ∧ isDefer o = some d) ∧ codeOk nt ps A = true := by
  intro c
  induction c with
  | seq x y _ ihy =>
    intro A B ops d h hok
    unfold cutD at h
    split at h
    · rename_i id ops' y' hxy
      cases hxy
      split at h
      · rename_i c' hb
        cases h
        simp only [codeOk, Bool.and_eq_true] at hok
        obtain ⟨o, h1, h2⟩ := Option.bind_eq_some_iff.1 hb
        rw [Array.back?_eq_getElem?] at h1
        refine ⟨fun i o ho d hd => ?_, hok.2, ⟨o, h1, ?_, h2⟩, rfl⟩
        · have := (Array.all_eq_true'.1 hok.1.1) o (Array.mem_of_getElem? ho)
          rw [hd] at this
          simpa using this
        · have := (Array.getElem?_eq_some_iff.1 h1).1; omega
      · split at h
        · rename_i A' r c' B' hy
          cases h
          simp only [codeOk, Bool.and_eq_true] at hok
          obtain ⟨h1, h2, h3, h4⟩ := ihy hy hok.2
          exact ⟨h1, h2, h3, by simp only [codeOk, Bool.and_eq_true]; exact ⟨hok.1, h4⟩⟩
        · cases h
    · rename_i x' y' hne hxy
      cases hxy
      split at h
      · rename_i A' r c' B' hy
        cases h
        simp only [codeOk, Bool.and_eq_true] at hok
        obtain ⟨h1, h2, h3, h4⟩ := ihy hy hok.2
        exact ⟨h1, h2, h3, by simp only [codeOk, Bool.and_eq_true]; exact ⟨hok.1, h4⟩⟩
      · cases h
    · rename_i hne1 hne2
      exact absurd rfl (hne2 x y)
  | _ => intro A B ops d h; simp [cutD] at h

/-- to the end of what stands ahead of the 'defer'; or out of it -/
theorem cutD_sound {F : Fix} {nt : Nat} {call : Cal} {ps : Nat → List (Nat × Nat)} {L : Nat} (hm : F.cx.P.follows .mixedOrders = true) (hc : CalOK F.cx.P call F.cx.dep) :
    ∀ (c : Code) {A B : Code} {ops : Array Oper} {d : Call}, cutD c = some (A, ops, d, B) → codeOk nt ps c = true → ∀ (fs : FS) (o : Out) (fs1 : FS), evCode F.cx call ps L A fs = some (o, fs1) → ∀ (G : Gh) (a : Act) (w : World), FR F nt (fun _ => False) fs G a w → ∀ Q,
      (o = .norm → ∀ G a w, FR F nt (fun _ => False) fs1 G a w → wpOps F.cx.P ops (Exit.then (B.wp F.cx.P Q) Q) (List.range ops.size) a w) → (o ≠ .norm → CodeP F nt (o, fs1) Q) → c.wp F.cx.P Q a w := by
  intro c
  induction c with
  | seq x y _ ihy =>
    intro A B ops d h hok fs o fs1 hev G a w hfr Q hK hE
    have step : ∀ {x' : Code} {A' : Code}, codeOk nt ps x' = true → cutD y = some (A', ops, d, B) → codeOk nt ps y = true → evCode F.cx call ps L (.seq x' A') fs = some (o, fs1) → (Code.seq x' y).wp F.cx.P Q a w := fun {x' A'} hx' hy hok' hev => by
      simp only [evCode] at hev
      refine wp_seq ?_
      split at hev
      · rename_i fs' hx
        refine evCode_sound hm hc x' hx' fs _ hx G a w hfr _ ?_
        exact fun G' a' w' h' => ihy hy hok' fs' o fs1 hev G' a' w' h' Q hK hE
      · rename_i hne
        refine evCode_sound hm hc x' hx' fs _ hev G a w hfr _ ?_
        have hn : o ≠ .norm := fun e => by subst e; exact absurd hev (hne fs1)
        have := hE hn
        cases o with
        | norm => exact absurd rfl hn
        | exit id => exact this
        | ret => exact this
        | pan v => exact this
    unfold cutD at h
    split at h
    · rename_i id ops' y' hxy
      cases hxy
      simp only [codeOk, Bool.and_eq_true] at hok
      split at h
      · rename_i c' hb
        cases h
        simp only [evCode, Option.some.injEq, Prod.mk.injEq] at hev
        obtain ⟨rfl, rfl⟩ := hev
        exact wp_seq (wp_region (hK rfl G a w hfr))
      · split at h
        · rename_i A' r c' B' hy
          cases h
          exact step (by simp only [codeOk, Bool.and_eq_true]; exact hok.1) hy hok.2 hev
        · cases h
    · rename_i x' y' hne hxy
      cases hxy
      simp only [codeOk, Bool.and_eq_true] at hok
      split at h
      · rename_i A' r c' B' hy
        cases h
        exact step hok.1 hy hok.2 hev
      · cases h
    · rename_i hne1 hne2
      exact absurd rfl (hne2 x y)
  | _ => intro A B ops d h; simp [cutD] at h

theorem isDefer_spec {o : Oper} {c : Call} (h : isDefer o = some c) : o.op = .defer c ∧ o.dst = none ∧ o.guard = none := by
  unfold isDefer at h
  split at h
  · rename_i c' hop
    split at h
    · rename_i hc
      cases h
      simp only [Bool.and_eq_true, Option.isNone_iff_eq_none] at hc
      exact ⟨hop, hc.1, hc.2⟩
    · cases h
  · cases h

theorem funcD_sound {P : Program} {E : Env} (hE : EnvOK P E) {n : Nat} {call : Cal} {dc : CalD} (hcall : CalOK P call n) (hdc : CalDOK P dc n) {f : FuncId} {args : List AV} {S : St} {r : Res} {S' : St} (hok : E.ok f = true) (h : evFuncD P E call dc n f args S = some (r, S')) : AnsOK P (n + 1) f args S r S' := by
  unfold evFuncD at h
  split at h
  · cases h
  rename_i fn hfn
  split at h
  · cases h
  rename_i c hbody
  split at h
  rotate_left 1
  · cases h
  rename_i hcond
  split at h
  rotate_left 1
  · cases h
  rename_i A ops d B hcut
  have hcode := hE.code f fn c hok hfn hbody
  obtain ⟨hd, hB, ⟨o, ho, hpos, hdf⟩, hA⟩ := cutD_ok c hcut hcode
  obtain ⟨hop, hdst, hg⟩ := isDefer_spec hdf
  refine ⟨⟨fn, hfn, hcond.2, by simp [hbody]⟩, fun w0 Bs G w vs hi hnu hargs => ?_⟩
  have hl := hargs.length
  simp at hl
  let F : Fix := { w0 := w0, B := Bs, Ge := G, we := w, Se := S, cx := ⟨P, E.esc f, n⟩, ie := hi }
  have hfr : FR F fn.ntmps (fun _ => False) ⟨argsA args, fun _ => (0, []), 0, S⟩ G { tmps := vs ++ Array.replicate (fn.ntmps - vs.size) undef, defers := [] } w :=
    ⟨⟨hi, .refl G w, ⟨fun d hd => absurd rfl hd, fun d e k hd => absurd rfl hd⟩⟩, fun x => args_VR hargs _ x, by simp; omega, rfl, fun d v hd => hnu d v (by have : d < n := hd; omega), fun v hv => absurd (hnu n v (by omega)) hv, fun _ _ _ => rfl, .refl G⟩
  have hcal : CalOK F.cx.P call F.cx.dep := hcall
  refine calls_of_wp_defers hfn hbody ?_
  -- what is handed back, the results read
  have ret : ∀ (F' : Fix) (D : Nat → Prop) (fs : FS) (G' : Gh) (a : Act) (w' : World), F'.w0 = w0 → F'.B = Bs → F'.Ge = G → F'.we = w → F'.cx = ⟨P, E.esc f, n⟩ → FR F' fn.ntmps D fs G' a w' → (match resA P ⟨P, E.esc f, n⟩ fs fn.results.toList with | some vs => finRet S (oneOf vs) fs.S | none => none) = some (r, S') →
      ∃ v, (results fn a.tmps).run P w' = .ok v w' ∧ ∃ G2, Inv w0 Bs G2 S' w' ∧ Ext G w G2 w' ∧ G2.nu = G.nu ∧ ResR G2 r (.returned v) := by
    intro F' D fs G' a w' e1 e2 e3 e4 e5 hfr' hres
    obtain ⟨fw0, fB, fGe, fwe, fSe, fcx, fie, fdl, fGm⟩ := F'
    simp only at e1 e2 e3 e4 e5
    subst e1 e2 e3 e4 e5
    split at hres
    · rename_i l hl
      obtain ⟨vs', h1, h2⟩ := resA_run hfr' fn.results.toList l hl
      unfold finRet at hres
      split at hres
      · rename_i rv S2 hfin
        cases hres
        obtain ⟨G2, g1, g2, g3, g4⟩ := finish_sound hi hfr'.pre.inv hfr'.pre.ext (oneOf_VR h2) hfin
        refine ⟨_, ?_, G2, g1, g2, g3, g4⟩
        unfold results
        simp only [Sem.run_bind]
        rw [Array.mapM_eq_mapM_toList]
        simp only [Sem.run_map]
        erw [h1]
        simp
      · cases hres
    · cases hres
  have panic : ∀ (v : AV) (v' : Value) (fs : FS) (G' : Gh) (w' : World), Inv w0 Bs G' fs.S w' → Ext G w G' w' → VR G' v v' → finPan S v fs.S = some (r, S') →
      ∃ G2, Inv w0 Bs G2 S' w' ∧ Ext G w G2 w' ∧ G2.nu = G.nu ∧ ResR G2 r (.panicked [{ v := v', recovered := false }]) := by
    intro v v' fs G' w' k1 k2 k3 hres
    unfold finPan at hres
    split at hres
    · rename_i rv S2 hfin
      cases hres
      obtain ⟨G2, g1, g2, g3, g4⟩ := finish_sound hi k1 k2 k3 hfin
      exact ⟨G2, g1, g2, g3, v', rfl, g4⟩
    · cases hres
  split at h
  · rename_i fs1 hA1
    split at h
    rotate_left 1
    · cases h
    rename_i fs2 fp2 hseq
    split at h
    rotate_left 1
    · cases h
    rename_i wo hcallee
    split at h
    rotate_left 1
    · cases h
    rename_i g first cap hgv
    refine cutD_sound (F := F) hE.mixed hcal c hcut hcode _ _ _ hA1 G _ w hfr _ (fun _ G1 a1 w1 hfr1 => ?_) (fun hne => absurd rfl hne)
    have hsplit : List.range ops.size = List.range (ops.size - 1) ++ [ops.size - 1] := by
      obtain ⟨k, hk⟩ : ∃ k, ops.size = k + 1 := ⟨ops.size - 1, by omega⟩
      rw [hk, List.range_succ]; rfl
    rw [hsplit]
    refine seqA_app (F := F) hd hcal [ops.size - 1] _ (List.range (ops.size - 1)) (fun _ => False) fs1 G1 a1 w1 List.nodup_range (fun _ _ h => h) hfr1 fs2 fp2 hseq fun G2 a2 w2 hfr2 => ?_
    rw [wpOps_cons]
    unfold wpOp
    simp only [ho]
    rw [if_pos (by simp [Region.wanted, hg])]
    left
    -- the call that is deferred
    have hgr := rho_VR hfr2.tm wo
    rw [hgv] at hgr
    obtain ⟨fv, cv, hfv, hr1, hr2⟩ : ∃ fv cv, a2.eval wo = .func (.func g) fv cv ∧ VRL G2 first fv.toList ∧ VRL G2 cap cv.toList := by
      generalize a2.eval wo = z at hgr
      cases hgr with
      | fn _ _ _ fv cv h1 h2 => exact ⟨fv, cv, rfl, h1, h2⟩
    let dd : Deferred := { target := .fn (.func g) cv, args := fv ++ d.args.map a2.eval }
    have hrun : (execOp a2.eval o).run F.cx.P w2 = .ok (.defer dd) w2 := by
      simp [execOp, hop, resolve, hcallee, hfv, Deferred.ofValue, dd]
    unfold Oper.wp
    rw [hrun, Oper.upon_defer, hdst]
    have hdv : VRL G2 (first ++ (rhoL fs2.t d.args ++ cap)) ((fv ++ d.args.map a2.eval) ++ cv).toList := by
      have := hr1.append ((rhoL_VRL hfr2.tm d.args).append hr2)
      simpa [Array.toList_append, List.append_assoc] using this
    let F' : Fix := { w0 := w0, B := Bs, Ge := G, we := w, Se := S, cx := ⟨P, E.esc f, n⟩, ie := hi, dl := [dd], Gm := G2 }
    have hdf2 : a2.defers = [] := hfr2.df
    have hfr3 : FR F' fn.ntmps (fun _ => False) ⟨fs2.t, fs2.b, fs2.c + ops.size, fs2.S⟩ G2 (Act.put { a2 with defers := dd :: a2.defers } none undef) w2 :=
      ⟨⟨hfr2.pre.inv, hfr2.pre.ext, hfr2.pre.loc⟩, hfr2.tm, hfr2.nt, by show dd :: a2.defers = [dd]; rw [hdf2], hfr2.nul, fun v hv => (hfr2.nud v hv).elim (fun h => .inl (by show v ≤ fs2.c + ops.size; omega)) (fun ⟨j, h1, h2⟩ => .inl (by
        rcases h1 with h1 | h1
        · exact h1.elim
        · have := List.mem_range.1 h1
          show v ≤ fs2.c + ops.size; omega)), hfr2.nue, .refl G2⟩
    show B.wp P (bodyPostD P fn _) _ w2
    -- behind the body: the deferred call
    have leave : ∀ (D : Nat → Prop) (fs : FS) (pv : Option AV) (pv' : Option Value) (q : Bool) (S3 : St) (G3 : Gh) (a3 : Act) (w3 : World) (u : FrameMode), FR F' fn.ntmps D fs G3 a3 w3 → PvR G3 pv pv' → dc g (first ++ (rhoL fs2.t d.args ++ cap)) fs.S pv = some (q, S3) → u = modeD pv' false →
        (∀ G4 w4 , FR F' fn.ntmps D ⟨fs.t, fs.b, fs.c, S3⟩ G4 a3 w4 → Gle G3 G4 → Leaves P fn a3.tmps (fun e w' => ∃ G', Inv w0 Bs G' S' w' ∧ Ext G w G' w' ∧ G'.nu = G.nu ∧ ResR G' r e) [] (settle (modeD pv' q)) w4) →
        Leaves P fn a3.tmps (fun e w' => ∃ G', Inv w0 Bs G' S' w' ∧ Ext G w G' w' ∧ G'.nu = G.nu ∧ ResR G' r e) a3.defers u w3 := by
      intro D fs pv pv' q S3 G3 a3 w3 u hfrb hpv hdcall hu hk
      have hdfs : a3.defers = [dd] := hfrb.df
      rw [hdfs]
      obtain ⟨⟨gn, e1, e2, e3⟩, hq, hans⟩ := hdc _ _ _ _ _ _ hdcall
      obtain ⟨body, hbd⟩ := Option.isSome_iff_exists.1 e3
      have e2' : gn.name ≠ "runtime.NumGoroutine" := by simpa using e2
      refine ⟨by subst hu; cases pv' <;> simp [modeD], .func g, cv, g, (fv ++ d.args.map a2.eval) ++ cv, rfl, by simp [dd, invoke, callFunc, e1, e2', hbd], ?_⟩
      refine (by subst hu; exact hans w0 Bs G3 w3 ((fv ++ d.args.map a2.eval) ++ cv) pv' hfrb.pre.inv hfrb.nul (hdv.mono hfrb.gm) hpv : CallsD P g _ u w3 _).mono ?_
      rintro e u' w4 ⟨⟨v, rfl⟩, rfl, G4, i1, i2, i3⟩
      refine hk G4 w4 ⟨⟨i1, hfrb.pre.ext.trans hi i2, hfrb.pre.loc.ext i2⟩, fun x => (hfrb.tm x).mono i2.le, hfrb.nt, hfrb.df, fun d v hd => by rw [i3]; exact hfrb.nul d v hd, fun v hv => hfrb.nud v (by rw [← i3]; exact hv), fun d v hd => by rw [i3]; exact hfrb.nue d v hd, hfrb.gm.trans i2.le⟩ i2.le
    cases hev : evCode ⟨P, E.esc f, n⟩ call (E.ps f) n B ⟨fs2.t, fs2.b, fs2.c + ops.size, fs2.S⟩ with
    | none => rw [hev] at h; cases h
    | some ob =>
      rw [hev] at h
      refine evCode_sound (F := F') hE.mixed hcall B hB _ ob hev G2 _ w2 hfr3 _ ?_
      obtain ⟨out, fs⟩ := ob
      have normal : (match dc g (first ++ (rhoL fs2.t d.args ++ cap)) fs.S none with | some (_, S3) => (match resA P ⟨P, E.esc f, n⟩ ⟨fs.t, fs.b, fs.c, S3⟩ fn.results.toList with | some vs => finRet S (oneOf vs) S3 | none => none) | none => none) = some (r, S') →
          ∀ (G3 : Gh) (a3 : Act) (w3 : World), FR F' fn.ntmps (fun _ => False) fs G3 a3 w3 → Leaves P fn a3.tmps (fun e w' => ∃ G', Inv w0 Bs G' S' w' ∧ Ext G w G' w' ∧ G'.nu = G.nu ∧ ResR G' r e) a3.defers .returning w3 := by
        intro h G3 a3 w3 hfrb
        split at h
        · rename_i q S3 hdcall
          refine leave _ fs none none q S3 G3 a3 w3 _ hfrb trivial hdcall rfl fun G4 w4 hfr4 _ => ?_
          obtain ⟨v, v1, v2⟩ := ret F' _ ⟨fs.t, fs.b, fs.c, S3⟩ G4 a3 w4 rfl rfl rfl rfl rfl hfr4 h
          exact ⟨v, v1, v2⟩
        · cases h
      cases out with
      | norm => exact fun G3 a3 w3 hfrb => normal h G3 a3 w3 hfrb
      | ret => exact fun G3 a3 w3 hfrb => normal h G3 a3 w3 hfrb
      | exit id => cases h
      | pan v =>
        intro D G3 a3 w3 v' hfrD hv
        show Leaves P fn a3.tmps _ a3.defers (.panicking [{ v := v', recovered := false }]) w3
        simp only [fromD] at h
        split at h
        · rename_i S3 hdcall
          refine leave D fs (some v) (some v') true S3 G3 a3 w3 _ hfrD hv hdcall rfl fun G4 w4 hfr4 _ => ?_
          obtain ⟨v, v1, v2⟩ := ret F' _ ⟨fs.t, fs.b, fs.c, S3⟩ G4 a3 w4 rfl rfl rfl rfl rfl hfr4 h
          exact ⟨v, v1, v2⟩
        · rename_i S3 hdcall
          refine leave D fs (some v) (some v') false S3 G3 a3 w3 _ hfrD hv hdcall rfl fun G4 w4 hfr4 hle => ?_
          exact panic v v' ⟨fs.t, fs.b, fs.c, S3⟩ G4 w4 hfr4.pre.inv hfr4.pre.ext (hv.mono hle) h
        · cases h
  · rename_i fs1 hA1
    refine cutD_sound (F := F) hE.mixed hcal c hcut hcode _ _ _ hA1 G _ w hfr _ (fun hne => by cases hne) (fun _ => ?_)
    intro G' a' w' hfr'
    have hdf : a'.defers = [] := hfr'.df
    show Leaves P fn a'.tmps _ a'.defers .returning w'
    rw [hdf]
    obtain ⟨v, v1, v2⟩ := ret F _ fs1 G' a' w' rfl rfl rfl rfl rfl hfr' h
    exact ⟨v, v1, v2⟩
  · rename_i v fs1 hA1
    refine cutD_sound (F := F) hE.mixed hcal c hcut hcode _ _ _ hA1 G _ w hfr _ (fun hne => by cases hne) (fun _ => ?_)
    intro D G' a' w' v' hfr' hv
    have hdf : a'.defers = [] := hfr'.df
    show Leaves P fn a'.tmps _ a'.defers (.panicking _) w'
    rw [hdf]
    exact panic v v' fs1 G' w' hfr'.pre.inv hfr'.pre.ext hv h
  · cases h

/-- THE EVALUATOR IS SOUND. -/
theorem fork_sound {P : Program} {n : Nat} {f : FuncId} {F : List AV → St → Option (Res × St)} (hF : ∀ args S r S', F args S = some (r, S') → AnsOK P n f args S r S') {args : List AV} {S : St} {r : Res} {S' : St} (h : evFork F args S = some (r, S')) : AnsOK P n f args S r S' := by
  unfold evFork at h
  split at h
  · rename_i tok rest
    split at h
    · rename_i v S1 u S2 e1 e2
      split at h
      · rename_i hc
        cases h
        simp only [Bool.and_eq_true, beq_iff_eq] at hc
        have q1 := avEq_spec _ _ hc.1.1
        have q2 := boxEqL_spec _ _ hc.1.2
        have q3 := hc.2
        have hS : S2 = S' := by
          obtain ⟨H1, T1⟩ := S'
          obtain ⟨H2, T2⟩ := S2
          simp only at q2 q3
          rw [q2, q3]
        subst q1; subst hS
        obtain ⟨a1, a2⟩ := hF _ _ _ _ e1
        obtain ⟨b1, b2⟩ := hF _ _ _ _ e2
        refine ⟨a1, fun w0 B G w vs hi hb hv => ?_⟩
        generalize hvs : vs.toList = l at hv
        cases hv with
        | cons _ v0 _ m hv0 hm =>
          have go : ∀ q : Bool, VR G (.slice [] (.knil q)) v0 → VRL G (.slice [] (.knil q) :: rest) vs.toList := fun q hq => by
            rw [hvs]; exact .cons _ _ _ _ hq hm
          cases hv0 with
          | nils _ ad _ _ =>
            cases ad with
            | none => exact a2 w0 B G w vs hi hb (go true (.nils _ _ (by simp) (by simp)))
            | some ad => exact b2 w0 B G w vs hi hb (go false (.nils _ _ (by simp) (by simp)))
          | slice _ _ fl b o cap sz k1 k2 k3 k4 k5 => exact b2 w0 B G w vs hi hb (go false (.slice [] _ fl b o cap sz k1 k2 k3 rfl k5))
      · cases h
    · cases h
  · exact hF _ _ _ _ h
theorem evs_sound {P : Program} {E : Env} (hE : EnvOK P E) : ∀ n, CalOK P (ev P E n) n ∧ CalDOK P (evd P E n) n := by
  intro n
  induction n with
  | zero =>
    refine ⟨fun f args S r S' h => ?_, fun f args S pv q S' h => ?_⟩
    · have h' : (none : Option (Res × St)) = some (r, S') := h
      cases h'
    · have h' : (none : Option (Bool × St)) = some (q, S') := h
      cases h'
  | succ n ih =>
    refine ⟨fun f args S r S' h => ?_, fun f args S pv q S' h => ?_⟩
    · have h' : (if E.ok f then (if E.dfr f then evFuncD P E (ev P E n) (evd P E n) n f args S else if E.fork f then evFork (evFunc P E (ev P E n) n f) args S else evFunc P E (ev P E n) n f args S) else E.ext f args S) = some (r, S') := h
      split at h'
      · rename_i hok
        split at h'
        · exact funcD_sound hE ih.1 ih.2 hok h'
        · split at h'
          · exact fork_sound (fun args S r S' h => func_sound hE ih.1 hok h) h'
          · exact func_sound hE ih.1 hok h'
      · rename_i hok
        obtain ⟨h1, h2⟩ := hE.ext f args S r S' (by simpa using hok) h'
        exact ⟨h1, fun w0 B G w vs hi _ ha => h2 w0 B G w vs hi ha⟩
    · have h' : (if E.ok f then evDefer P E (ev P E n) n f args S pv else none) = some (q, S') := h
      split at h'
      · rename_i hok
        exact defer_sound hE ih.1 hok h'
      · cases h'
theorem ev_sound {P : Program} {E : Env} (hE : EnvOK P E) (n : Nat) : CalOK P (ev P E n) n := (evs_sound hE n).1
end Go.Proofs.YtcpoinfdnimanaaGreatDoor.AE
/- From an input's reading to the evaluator's values; from its answer to the row's; rounds of a loop. No condition. -/
namespace Go.Proofs.YtcpoinfdnimanaaGreatDoor.AE
set_option linter.unusedVariables false
set_option linter.unusedSimpArgs false
open Go Go.RowKit Go.ChangeShapes

/-- what is known when a call begins: every cell reads as it does -/
def gh0 (W : World) : Gh := ⟨fun b o => W.cell? ⟨b, o, none⟩, fun _ => none, fun _ _ => none, fun _ => none, fun _ => none, fun _ _ => none⟩
def st0 : St := ⟨[], []⟩

theorem inv0 {W : World} (hg : GL W W.heap.size) : Inv W W.heap.size (gh0 W) st0 W where
  gl := hg
  below := Below.refl _ _
  base := Nat.le_refl _
  imm := fun _ _ _ h => h
  fr := fun t => by simp [gh0, st0]
  box := fun i bx h => by simp [st0] at h
  phid := fun i b h => by simp [gh0] at h
  phij := fun i j b h => by simp [gh0] at h
  tok := fun t n h => by simp [st0] at h
  taud := fun t x h => by simp [gh0] at h
  tauj := fun t u b m m' h => by simp [gh0] at h
  phil := fun i b h => by simp [gh0] at h
  tel := fun i bx h => by simp [st0] at h
  ex := ⟨fun i bx h => by simp [st0] at h, fun i bx h => by simp [st0] at h, fun i v x h => by simp [gh0] at h, fun i v x h => by simp [gh0] at h, fun i j v u b m m' h => by simp [gh0] at h,
    fun i v b m j h => by simp [gh0] at h, fun i v b m t m' h => by simp [gh0] at h, fun i v b m o h => by simp [gh0] at h, fun t b m h => by simp [gh0] at h⟩

/-- THE JOIN: an evaluation to a bool is what the call returns; below the heap's old size nothing turns. -/
theorem run_bool {P : Program} {E : Env} (hE : EnvOK P E) {n : Nat} {f : FuncId} {args : List AV} {S' : St} {b : Bool} (h : ev P E n f args st0 = some (.ret (.bool b), S'))
    {W : World} (hg : GL W W.heap.size) {vs : Array Value} (hv : VRL (gh0 W) args vs.toList) : Calls P f vs W fun e W' => e = .returned (.bool b) ∧ Below W.heap.size W W' := by
  refine ((ev_sound hE n f args st0 _ _ h).2 W W.heap.size (gh0 W) W vs (inv0 hg) (fun _ _ _ => rfl) hv).mono fun e W' ⟨G', hi, _, _, hr⟩ => ?_
  cases e with
  | returned v => exact ⟨by rw [VR.inv_bool hr], hi.below⟩
  | _ => exact hr.elim

section
variable {H : Type} {enc : TypeId × Value → H} {P : Program} {W : World} {held : Bool}

theorem cells_I {b : Nat} {a : Addr} {n : Nat} {cs : List Value} (h : W.cells? b a n = some cs) (hn : 0 < n) (hs : a.spot = none ∨ a.spot ≠ none) :
    ∀ j u, cs[j]? = some u → (j = 0 → a.spot = none) ∧ (gh0 W).I a.block (a.off + j) = some u := by
  intro j u hj
  obtain ⟨_, hl, hc⟩ := World.cells?_some h
  have hlt := (List.getElem?_eq_some_iff.1 hj).1
  have h0 := hc 0 hn
  have hs0 : a.spot = none := by
    cases hsp : a.spot with
    | none => rfl
    | some x =>
      exfalso
      have h1 : (W.cell? (a.add 0)) = none := by
        simp only [Addr.add, if_pos, World.cell?, hsp]
        split <;> rfl
      rw [h1] at h0
      have := List.getElem?_eq_none_iff.1 h0.symm
      omega
  refine ⟨fun _ => hs0, ?_⟩
  have := hc j (by omega)
  rw [hj] at this
  show W.cell? ⟨a.block, a.off + j, none⟩ = some u
  rw [← this]
  congr 1
  obtain ⟨b, o, s⟩ := a
  simp at hs0
  subst hs0
  simp only [Addr.add]
  split <;> simp_all

theorem VRI_of {G : Gh} {l : List AV} {m : List Value} (h : VRL G l m) (b o : Nat) (hI : ∀ j u, m[j]? = some u → G.I b (o + j) = some u) : VRI G l b o := by
  induction l generalizing m o with
  | nil => exact .nil b o
  | cons a l ih =>
    cases h with
    | cons _ v _ m ha hl =>
      refine .cons a v l b o (by simpa using hI 0 v (by simp)) ha (ih hl (o + 1) fun j u hj => ?_)
      have := hI (j + 1) u (by simpa using hj)
      rw [show o + 1 + j = o + (j + 1) by omega]
      exact this

theorem VRI_append {G : Gh} {l m : List AV} {b o : Nat} (h : VRI G l b o) (k : VRI G m b (o + l.length)) : VRI G (l ++ m) b o := by
  induction l generalizing o with
  | nil => simpa using k
  | cons a l ih =>
    cases h with
    | cons _ v _ _ _ hI ha hl => exact .cons _ _ _ _ _ hI ha (ih hl (by rw [show o + 1 + l.length = o + (a :: l).length by simp; omega]; exact k))

/-- the elements of a row, one by one -/
theorem row_open {α : Type} {Q : α → DataW H × List MemPlace → Prop} {emb : α → AV} {cl : α → List AV} {sz : Nat} (hpos : 0 < sz) {b0 : Nat} {e n : Nat} {a : Addr}
    (hcl : ∀ x, (emb x).cells? = some (cl x) ∧ (cl x).length = sz)
    (hel : ∀ cs y, DataW.trod enc P W b0 (fun _ => true) held n e cs = some y → ∃ x, VRL (gh0 W) (cl x) cs ∧ Q x y) :
    ∀ (l : List (DataW H × List MemPlace)) (i0 : Nat), (∀ (i : Nat) (y : DataW H × List MemPlace), l[i]? = some y → (W.cells? b0 (a.add ((i0 + i) * sz)) sz).bind (DataW.trod enc P W b0 (fun _ => true) held n e) = some y) →
      ∃ xs : List α, xs.length = l.length ∧ (∀ (i : Nat) (x : α), xs[i]? = some x → ∃ y, l[i]? = some y ∧ Q x y) ∧ flatQ (xs.map emb) = some (xs.flatMap cl) ∧
        (xs ≠ [] → i0 = 0 → a.spot = none) ∧ VRI (gh0 W) (xs.flatMap cl) a.block (a.off + i0 * sz)
  | [], i0, _ => ⟨[], rfl, fun i x h => by simp at h, rfl, fun h => absurd rfl h, .nil _ _⟩
  | y :: l, i0, h => by
    obtain ⟨xs, h1, h2, h3, h4, h5⟩ := row_open hpos hcl hel l (i0 + 1) fun i y' hy => by
      have := h (i + 1) y' (by simpa using hy)
      rw [show i0 + 1 + i = i0 + (i + 1) by omega]
      exact this
    have hy := h 0 y (by simp)
    rw [Nat.add_zero, Option.bind_eq_some_iff] at hy
    obtain ⟨cs, hcs, hy⟩ := hy
    obtain ⟨x, hx, hq⟩ := hel cs y hy
    obtain ⟨c1, c2⟩ := hcl x
    have hI := cells_I hcs hpos (Decidable.em _)
    have hlen := hx.length
    have hb : (a.add (i0 * sz)).block = a.block := block_add _ _
    have ho : (a.add (i0 * sz)).off = a.off + i0 * sz := by
      simp only [Addr.add]; split <;> simp_all
    refine ⟨x :: xs, by simp [h1], fun i x' hx' => ?_, by simp [flatQ, c1, h3], fun _ hi => ?_, ?_⟩
    · cases i with
      | zero => simp at hx'; subst hx'; exact ⟨y, by simp, hq⟩
      | succ i => simpa using h2 i x' (by simpa using hx')
    · subst hi
      cases hcs0 : cs with
      | nil => rw [hcs0] at hlen; simp at hlen; omega
      | cons v cs' =>
        have := (hI 0 v (by rw [hcs0]; rfl)).1 rfl
        simpa [Addr.add] using this
    · simp only [List.flatMap_cons]
      refine VRI_append (VRI_of hx _ _ fun j u hj => ?_) ?_
      · have := (hI j u hj).2
        rw [hb, ho] at this
        exact this
      · rw [c2, Nat.add_assoc, show i0 * sz + sz = (i0 + 1) * sz by rw [Nat.add_mul, Nat.one_mul]]
        exact h5

/-- A SLICE: its elements, one by one; what lies behind them up to its room is read, and does not matter. -/
theorem slice_open {α : Type} {Q : α → DataW H × List MemPlace → Prop} {emb : α → AV} {cl : α → List AV} {sz : Nat} (hpos : 0 < sz) {b0 : Nat} {t e fuel : Nat} (ht : P.underlying t = some (.slice e)) (hsz : P.cellsOf e = sz)
    (hcl : ∀ x, (emb x).cells? = some (cl x) ∧ (cl x).length = sz)
    {cs : List Value} {x : DataW H × List MemPlace} (h : DataW.trod enc P W b0 (fun _ => true) held fuel t cs = some x)
    (hel : ∀ n cs y, n < fuel → DataW.trod enc P W b0 (fun _ => true) held n e cs = some y → ∃ x, VRL (gh0 W) (cl x) cs ∧ Q x y) :
    ∃ xs : List α, VRL (gh0 W) [.slice (xs.map emb) .non] cs ∧
      ((xs = [] ∧ x.1 = .nil) ∨ ∃ (ys : List (DataW H × List MemPlace)) (rest : List (DataW H)), x.1 = .slice (ys.map (·.1)) rest ∧ ys.length = xs.length ∧ ∀ (i : Nat) (x : α), xs[i]? = some x → ∃ y, ys[i]? = some y ∧ Q x y) := by
  subst hsz
  rcases DataW.trod_slice ht h with ⟨rfl, rfl⟩ | ⟨a, len, cap, elems, rest, n, hf, rfl, rfl, hb, hl, hm, hlen, hel1, hsp, _⟩
  · exact ⟨[], .cons _ _ _ _ (.nils _ _ (by simp) (by simp)) .nil, .inl ⟨rfl, rfl⟩⟩
  obtain ⟨hrl, hr⟩ := hsp rfl
  have hel' := fun cs y h => hel n cs y (by omega) h
  obtain ⟨xs, h1, h2, h3, h4, h5⟩ := row_open hpos hcl hel' (elems ++ rest) 0 (a := a) fun i y hy => by
    rw [Nat.zero_add]
    by_cases hi : i < len
    · rw [List.getElem?_append_left (by omega)] at hy
      rw [hel1 i hi]; exact hy
    · rw [List.getElem?_append_right (by omega)] at hy
      have hlt := (List.getElem?_eq_some_iff.1 hy).1
      have := hr (i - len) (by omega)
      rw [show len + (i - len) = i by omega] at this
      rw [this, ← hy, hlen]
  simp only [List.length_append] at h1
  have hxl : (xs.take len).length = len := by simp; omega
  refine ⟨xs.take len, ?_, .inr ⟨elems, rest.map (·.1), rfl, by rw [hxl, hlen], fun i x hx => ?_⟩⟩
  · refine .cons _ _ _ _ ?_ .nil
    by_cases hcap : cap = 0
    · have : len = 0 := by omega
      subst this; subst hcap
      simpa using VR.nils .non (some a) (by simp) (by simp)
    · have hs0 : a.spot = none := h4 (fun e => by subst e; simp at h1; omega) rfl
      obtain ⟨b, o, s⟩ := a
      simp at hs0
      subst hs0
      obtain ⟨f1, f2, g1, g2, g3⟩ := flatQ_split (a := (xs.take len).map emb) (b := (xs.drop len).map emb) (by rw [← List.map_append, List.take_append_drop]; exact h3)
      rw [g3] at h5
      have := VR.slice (G := gh0 W) ((xs.take len).map emb) .non f1 b o cap (P.cellsOf e) (by simp; omega) g1 (by simpa using h5.left) trivial
        (sizesOk_mem.2 fun z hz => by
          obtain ⟨x, _, rfl⟩ := List.mem_map.1 hz
          exact ⟨_, hcl x⟩)
      simpa [hxl, List.length_map, Nat.min_eq_left (show len ≤ xs.length by omega)] using this
  · have hi := (List.getElem?_eq_some_iff.1 hx).1
    rw [hxl] at hi
    rw [List.getElem?_take_of_lt hi] at hx
    obtain ⟨y, hy, hq⟩ := h2 i x hx
    rw [List.getElem?_append_left (by omega)] at hy
    exact ⟨y, hy, hq⟩
end

/-- what a call gives back where it has made nothing that stays -/
theorem finish_same {S S' : St} {v : AV} (hv : v.sealed = true) (hs : v.strip S.T.length = v) (hl : v.low S.H.length S.T.length = true) (hH : S'.H.length = S.H.length) (hT : S'.T = S.T) : finish S v S' = some (v, S') := by
  unfold finish
  rw [if_pos hv, hs]
  split
  · rename_i h
    simp only [Bool.and_eq_true] at h
    obtain ⟨⟨h1, _⟩, _⟩ := h
    have := boxEqL_spec _ _ h1
    rw [← hH, List.take_length] at this
    obtain ⟨H, T⟩ := S
    obtain ⟨H', T'⟩ := S'
    simp_all
  · have e1 : S'.H.take S.H.length = S'.H := by rw [← hH, List.take_length]
    rw [e1, ← hT]
    split
    · rfl
    · split <;> rfl

/-- ROUNDS: what holds ahead of round i holds ahead of the next one; the last one ends the loop. -/
theorem iter_range {body : FS → Option (Out × FS)} {I : Nat → FS → Prop} {Q : Out × FS → Prop} {len : Nat} (hstep : ∀ i, i < len → ∀ fs, I i fs → ∃ fs', body fs = some (.norm, fs') ∧ I (i + 1) fs')
    (hend : ∀ fs, I len fs → ∃ o fs', body fs = some (o, fs') ∧ o ≠ .norm ∧ Q (o, fs')) : ∀ (k i L : Nat) (fs : FS), i + k = len → k < L → I i fs → ∃ r, iter L body fs = some r ∧ Q r
  | 0, i, L, fs, he, hL, hI => by
    obtain ⟨L, rfl⟩ : ∃ m, L = m + 1 := ⟨L - 1, by omega⟩
    simp at he
    subst he
    obtain ⟨o, fs', h1, h2, h3⟩ := hend fs hI
    refine ⟨(o, fs'), ?_, h3⟩
    simp only [iter, h1]
    cases o <;> first | rfl | exact absurd rfl h2
  | k + 1, i, L, fs, he, hL, hI => by
    obtain ⟨L, rfl⟩ : ∃ m, L = m + 1 := ⟨L - 1, by omega⟩
    obtain ⟨fs', h1, h2⟩ := hstep i (by omega) fs hI
    obtain ⟨r, h3, h4⟩ := iter_range hstep hend k (i + 1) L fs' (by omega) (by omega) h2
    exact ⟨r, by simp only [iter, h1]; exact h3, h4⟩

/-- into a function, its body in parts -/
theorem ev_enter {P : Program} {E : Env} {n : Nat} {f : FuncId} {args : List AV} {S : St} {fn : Func} {c : Code} (hok : E.ok f = true) (hf : P.funcs[f]? = some fn) (hb : fn.body = some c)
    (hn : args.length ≤ fn.ntmps) (hname : (fn.name == "runtime.NumGoroutine") = false) (hdf : E.dfr f = false := by rfl) (hfk : E.fork f = false := by rfl) :
    ev P E (n + 1) f args S = fromBody P ⟨P, E.esc f, n⟩ S fn.results.toList (evCode ⟨P, E.esc f, n⟩ (ev P E n) (E.ps f) n c ⟨argsA args, fun _ => (0, []), 0, S⟩) := by
  have hev : ev P E (n + 1) f args S = (if E.ok f then (if E.dfr f then evFuncD P E (ev P E n) (evd P E n) n f args S else if E.fork f then evFork (evFunc P E (ev P E n) n f) args S else evFunc P E (ev P E n) n f args S) else E.ext f args S) := rfl
  rw [hev, if_pos hok, if_neg (by rw [hdf]; simp), if_neg (by rw [hfk]; simp), evFunc, hf]
  simp only [hb]
  rw [if_pos ⟨hn, hname⟩]

/-- an answer for each that it holds of: for a rewrite with a condition -/
theorem skolem {p : FS → Prop} {q : FS → FS → Prop} (h : ∀ x, p x → ∃ y, q x y) : ∃ F : FS → FS, ∀ x, p x → q x (F x) := by
  classical
  exact ⟨fun x => if h' : p x then (h x h').choose else x, fun x hx => by
    have := (h x hx).choose_spec
    simp only [dif_pos hx]
    exact this⟩

/-- a part of a text: the first or the second of two; what a block or a loop holds -/
def cutC (c : Code) : List Nat → Code
  | [] => c
  | i :: l => match c with
    | .seq x y => if i = 0 then cutC x l else cutC y l
    | .cond _ x y => if i = 0 then cutC x l else cutC y l
    | .block _ x => cutC x l
    | .loop x => cutC x l
    | _ => .skip
def bodyOf (fn : Func) : Code := match fn.body with
  | some c => c | none => .skip
theorem codeOk_body {fn fn' : Func} {c : Code} {ps : Nat → List (Nat × Nat)} (hf : some fn' = some fn) (hb : fn.body = some c) (h : codeOk fn'.ntmps ps (bodyOf fn') = true) : codeOk fn.ntmps ps c = true := by
  cases hf
  unfold bodyOf at h
  rw [hb] at h
  exact h

/-! ### the row -/
section
variable {H : Type} {enc : TypeId × Value → H} {P : Program}

theorem trodAll_stays (hl : laidOutB P = true) {W W' : World} (hb : Below W.heap.size W W') {sp : Nat → Bool} : ∀ {ts : List TypeId} {vs : List Value} {ds : List (DataW H)} {ps : List MemPlace}, (∀ t ∈ ts, P.readableRec t = true ∧ t < P.types.size) →
    DataW.TrodAll enc P W 0 (fun _ => true) true ts vs ds ps → (∀ x ∈ ps, x.block < W.heap.size) → (∀ x ∈ ps, sp x.block = true) → DataW.TrodAll enc P W' 0 sp true ts vs ds ps
  | [], _, _, _, _, h, _, _ => by
    obtain ⟨rfl, rfl, rfl⟩ := trodAll_nil h
    exact trodAll_mk0
  | t :: ts, _, _, _, hr, h, hlt, hsp => by
    obtain ⟨v, vs, d, ds, p, q, rfl, rfl, rfl, h0, r0⟩ := trodAll_cons h
    obtain ⟨h1, h2⟩ := hr t (by simp)
    exact trodAll_cons_mk (WideElems.Trod_stays hl h1 h2 h0 (fun x hx => hb.same (hlt x (by simp [hx]))) fun x hx => hsp x (by simp [hx]))
      (trodAll_stays hl hb (fun t ht => hr t (by simp [ht])) r0 (fun x hx => hlt x (by simp [hx])) fun x hx => hsp x (by simp [hx]))

/-- A LAW's ROW: it returned true; below the heap's old size nothing has turned; its variables are none. -/
theorem post_law {f : Func} {s : ChangeSpec} {apart fresh handsOn again : Bool} {W W' : World} {args : Array Value} {ds gs : List (DataW H)} {before : List MemPlace} {tb : TypeId} (hl : laidOutB P = true)
    (hW : DataW.Whole enc P f.params.toList s.vars apart W args.toList ds gs before) (hvars : s.vars = []) (hty : ∀ t ∈ f.params.toList, P.readableRec t = true ∧ t < P.types.size)
    (hres : f.resultTypes = #[tb]) (htb : P.underlying tb = some .bool) (hspec : s.fn H (ds ++ gs) = { results := [.lit (.bool true)], args := ds }) (hb : Below W.heap.size W W') :
    s.post enc P f apart fresh handsOn again W args (.bool true) W' := by
  have hlt := fun p hp => hW.lt p hp
  have hW0 := hW
  obtain ⟨p, q, hA, hV, rfl, hz, hn⟩ := hW
  rw [hvars] at hV
  obtain ⟨rfl, rfl⟩ := trodVars_none hV
  have hr : ∀ (b : Nat) (sp : Nat → Bool) (hd : Bool), DataW.TrodAll enc P W' b sp hd f.resultTypes.toList ((Value.bool true).resultList f.resultTypes.size) (s.fn H (ds ++ [])).results [] := fun b sp hd => by
    rw [hspec, hres]
    exact trodAll_cons_mk (shut_bool htb _) trodAll_mk0
  have ha : ∀ sp : Nat → Bool, (∀ x ∈ p ++ [], sp x.block = true) → DataW.TrodAll enc P W' 0 sp true f.params.toList args.toList (s.fn H (ds ++ [])).args p := fun sp hsp => by
    rw [hspec]
    exact trodAll_stays hl hb hty hA (fun x hx => hlt x (by simp [hx])) fun x hx => hsp x (by simp [hx])
  have hv : ∀ sp : Nat → Bool, DataW.TrodVars enc P W' sp s.vars (s.fn H (ds ++ [])).vars [] := fun sp => by
    rw [hspec, hvars]
    rfl
  have hold : ∀ x ∈ p ++ [], (fun b => decide (b < W.heap.size)) x.block = true := fun x hx => by simpa using hlt x hx
  refine ⟨ds, [], p ++ [], [], p, [], hW0, hr _ _ _, ha _ hold, hv _, World.keptBut_mono (fun x hx => ⟨hx, ?_⟩) (hb.frame (· ∈ p ++ [])), fun _ => ?_⟩
  · simpa using hx
  · refine ⟨ok_one hres rfl (okWide_bool_mk htb _), _, _, ([] ++ p) ++ [], ⟨[] ++ p, [], trodAll_append (ha _ (fun _ _ => rfl)) (hr _ _ _), hv _, rfl, ?_, ?_⟩, ?_⟩
    · intro b off hp
      have hp' : MemPlace.cell b off ∈ p ++ [] := by simpa using hp
      rw [hb.frozen (p := ⟨b, off, none⟩) (hlt _ hp')]
      exact hz b off hp'
    · intro h
      simpa using hn h
    · intro x hx _
      simpa using hx
end
end Go.Proofs.YtcpoinfdnimanaaGreatDoor.AE
/- An evaluation by rewriting: where a test is not known, both roads are gone, one behind 'if', one behind 'else'. No condition. -/
namespace Go.Proofs.YtcpoinfdnimanaaGreatDoor.AE
set_option linter.unusedVariables false
set_option linter.unusedSimpArgs false
open Go

section
variable {cx : Ctx} {call : Cal} {ps : Nat → List (Nat × Nat)} {L : Nat} {fs : FS}

/-! ### what comes behind -/
def seqK (r : Option (Out × FS)) (k : FS → Option (Out × FS)) : Option (Out × FS) :=
  match r with
  | some (.norm, fs') => k fs'
  | r => r
def condK (c : AV) (f g : FS → Option (Out × FS)) (fs : FS) : Option (Out × FS) :=
  match c with
  | .bool true => f fs | .bool false => g fs | _ => none
def blockK (id : Nat) (r : Option (Out × FS)) : Option (Out × FS) :=
  match r with
  | some (.exit k, fs') => if k = id then some (.norm, fs') else some (.exit k, fs')
  | r => r
def stepK (r : Option OutS) (k : FS → Option OutS) : Option OutS :=
  match r with
  | some (.ok fs' _) => k fs'
  | r => r
def drawK (i : Nat) (fps : List FP) (r : Option OutS) (k : FS → List FP → Option DR) : Option DR :=
  match r with
  | some (.ok fs' fp) => k fs' (fps ++ [fp])
  | some (.pan v fs') => some (.pan v fs' i fps)
  | none => none
def opK (o : Oper) (r : Option OR) (fs : FS) : Option OutS :=
  match r with
  | some (.val v b S fp) => some (.ok ⟨putA fs.t o.dst v, b, fs.c, S⟩ fp)
  | some (.pan v S) => some (.pan v ⟨fs.t, fs.b, fs.c, S⟩)
  | none => none
def wantK (w : Option Bool) (f g : FS → Option OutS) (fs : FS) : Option OutS :=
  match w with
  | some true => f fs | some false => g fs | none => none

theorem seqK_ite (c : Prop) [Decidable c] (a b : Option (Out × FS)) (k : FS → Option (Out × FS)) : seqK (if c then a else b) k = if c then seqK a k else seqK b k := by split <;> rfl
theorem seqK_none (k : FS → Option (Out × FS)) : seqK none k = none := rfl
theorem seqK_norm (fs : FS) (k : FS → Option (Out × FS)) : seqK (some (.norm, fs)) k = k fs := rfl
theorem seqK_ret (fs : FS) (k : FS → Option (Out × FS)) : seqK (some (.ret, fs)) k = some (.ret, fs) := rfl
theorem seqK_exit (id : Nat) (fs : FS) (k : FS → Option (Out × FS)) : seqK (some (.exit id, fs)) k = some (.exit id, fs) := rfl
theorem seqK_pan (v : AV) (fs : FS) (k : FS → Option (Out × FS)) : seqK (some (.pan v, fs)) k = some (.pan v, fs) := rfl
theorem condK_bool (b : Bool) (f g : FS → Option (Out × FS)) (fs : FS) : condK (.bool b) f g fs = if b = true then f fs else g fs := by cases b <;> rfl
theorem condK_true (f g : FS → Option (Out × FS)) (fs : FS) : condK (.bool true) f g fs = f fs := rfl
theorem condK_false (f g : FS → Option (Out × FS)) (fs : FS) : condK (.bool false) f g fs = g fs := rfl
theorem blockK_ite (id : Nat) (c : Prop) [Decidable c] (a b : Option (Out × FS)) : blockK id (if c then a else b) = if c then blockK id a else blockK id b := by split <;> rfl
theorem blockK_none (id : Nat) : blockK id none = none := rfl
theorem blockK_norm (id : Nat) (fs : FS) : blockK id (some (.norm, fs)) = some (.norm, fs) := rfl
theorem blockK_ret (id : Nat) (fs : FS) : blockK id (some (.ret, fs)) = some (.ret, fs) := rfl
theorem blockK_exit (id k : Nat) (fs : FS) : blockK id (some (.exit k, fs)) = if k = id then some (.norm, fs) else some (.exit k, fs) := rfl
theorem blockK_pan (id : Nat) (v : AV) (fs : FS) : blockK id (some (.pan v, fs)) = some (.pan v, fs) := rfl
theorem stepK_ite (c : Prop) [Decidable c] (a b : Option OutS) (k : FS → Option OutS) : stepK (if c then a else b) k = if c then stepK a k else stepK b k := by split <;> rfl
theorem stepK_none (k : FS → Option OutS) : stepK none k = none := rfl
theorem stepK_ok (fs : FS) (fp : FP) (k : FS → Option OutS) : stepK (some (.ok fs fp)) k = k fs := rfl
theorem stepK_pan (v : AV) (fs : FS) (k : FS → Option OutS) : stepK (some (.pan v fs)) k = some (.pan v fs) := rfl
theorem drawK_ite (i : Nat) (fps : List FP) (c : Prop) [Decidable c] (a b : Option OutS) (k : FS → List FP → Option DR) : drawK i fps (if c then a else b) k = if c then drawK i fps a k else drawK i fps b k := by split <;> rfl
theorem drawK_none (i : Nat) (fps : List FP) (k : FS → List FP → Option DR) : drawK i fps none k = none := rfl
theorem drawK_ok (i : Nat) (fps : List FP) (fs : FS) (fp : FP) (k : FS → List FP → Option DR) : drawK i fps (some (.ok fs fp)) k = k fs (fps ++ [fp]) := rfl
theorem drawK_pan (i : Nat) (fps : List FP) (v : AV) (fs : FS) (k : FS → List FP → Option DR) : drawK i fps (some (.pan v fs)) k = some (.pan v fs i fps) := rfl
theorem opK_ite (o : Oper) (c : Prop) [Decidable c] (a b : Option OR) (fs : FS) : opK o (if c then a else b) fs = if c then opK o a fs else opK o b fs := by split <;> rfl
theorem opK_none (o : Oper) (fs : FS) : opK o none fs = none := rfl
theorem opK_val (o : Oper) (v : AV) (b : Nat → Nat × List AV) (S : St) (fp : FP) (fs : FS) : opK o (some (.val v b S fp)) fs = some (.ok ⟨putA fs.t o.dst v, b, fs.c, S⟩ fp) := rfl
theorem opK_pan (o : Oper) (v : AV) (S : St) (fs : FS) : opK o (some (.pan v S)) fs = some (.pan v ⟨fs.t, fs.b, fs.c, S⟩) := rfl
theorem wantK_some (b : Bool) (f g : FS → Option OutS) (fs : FS) : wantK (some b) f g fs = if b = true then f fs else g fs := by cases b <;> rfl
theorem wantK_true (f g : FS → Option OutS) (fs : FS) : wantK (some true) f g fs = f fs := rfl
theorem wantK_false (f g : FS → Option OutS) (fs : FS) : wantK (some false) f g fs = g fs := rfl
theorem afterRegion_ite (n : Nat) (c : Prop) [Decidable c] (a b : Option OutS) : afterRegion n (if c then a else b) = if c then afterRegion n a else afterRegion n b := by split <;> rfl
theorem afterDraw_ite (n : Nat) (qs : List (Nat × Nat)) (c : Prop) [Decidable c] (a b : Option DR) : afterDraw n qs (if c then a else b) = if c then afterDraw n qs a else afterDraw n qs b := by split <;> rfl
theorem fromBody_ite (P : Program) (S : St) (rs : List ResultVar) (c : Prop) [Decidable c] (a b : Option (Out × FS)) : fromBody P cx S rs (if c then a else b) = if c then fromBody P cx S rs a else fromBody P cx S rs b := by split <;> rfl
theorem ite_bool (c : Prop) [Decidable c] (a b : Bool) : (if c then AV.bool a else AV.bool b) = AV.bool (if c then a else b) := by split <;> rfl
theorem ite_int (c : Prop) [Decidable c] (k : IntKind) (a b : Int) : (if c then AV.int k a else AV.int k b) = AV.int k (if c then a else b) := by split <;> rfl

/-! ### a text, one step -/
def doOp (cx : Ctx) (call : Cal) (i : Nat) (o : Oper) (fs : FS) : Option OutS := opK o (evOp cx call i o fs) fs
def noOp (o : Oper) (fs : FS) : Option OutS := some (.ok ⟨putA fs.t o.dst .undef, fs.b, fs.c, fs.S⟩ .non)

theorem stepA_K (ops : Array Oper) (i : Nat) (o : Oper) : stepA cx call ops i o fs = wantK (wantedA o.guard ops fs.t) (doOp cx call i o) (noOp o) fs := by
  unfold stepA wantK doOp noOp opK
  generalize wantedA o.guard ops fs.t = w
  cases w with
  | none => rfl
  | some b => cases b <;> rfl
theorem lexA_nil (ops : Array Oper) (i : Nat) : lexA cx call ops i [] fs = some (.ok fs .non) := rfl
theorem lexA_cons (ops : Array Oper) (i : Nat) (o : Oper) (l : List Oper) : lexA cx call ops i (o :: l) fs = stepK (stepA cx call ops i o fs) (lexA cx call ops (i + 1) l) := by
  rw [lexA]
  generalize stepA cx call ops i o fs = r
  match r with
  | none => rfl
  | some (.ok _ _) => rfl
  | some (.pan _ _) => rfl
theorem lexF_nil (ops : Array Oper) (i : Nat) (fps : List FP) : lexF cx call ops i [] fs fps = some (.ok fs fps) := rfl
theorem lexF_cons (ops : Array Oper) (i : Nat) (o : Oper) (l : List Oper) (fps : List FP) : lexF cx call ops i (o :: l) fs fps = drawK i fps (stepA cx call ops i o fs) (lexF cx call ops (i + 1) l) := by
  rw [lexF]
  generalize stepA cx call ops i o fs = r
  match r with
  | none => rfl
  | some (.ok _ _) => rfl
  | some (.pan _ _) => rfl
theorem evCode_skip : evCode cx call ps L .skip fs = some (.norm, fs) := rfl
theorem evCode_region (id : Nat) (ops : Array Oper) : evCode cx call ps L (.region id ops false) fs = afterRegion ops.size (lexA cx call ops 0 ops.toList fs) := rfl
def drawC (cx : Ctx) (call : Cal) (q : Option Nat) (qs : List (Nat × Nat)) (ops : Array Oper) (fs : FS) : Option (Out × FS) :=
  match q with
  | none => afterDraw ops.size qs (lexF cx call ops 0 ops.toList fs [])
  | some i => afterDraw ops.size (permPs (permL ops i) i qs) (lexF cx call (permOps (permL ops i) ops) 0 (permOps (permL ops i) ops).toList fs [])
theorem drawC_none (qs : List (Nat × Nat)) (ops : Array Oper) : drawC cx call none qs ops fs = afterDraw ops.size qs (lexF cx call ops 0 ops.toList fs []) := rfl
theorem evCode_draw (id : Nat) (ops : Array Oper) : evCode cx call ps L (.region id ops true) fs = drawC cx call (permOf (ps id)) (ps id) ops fs := by
  rw [evCode]
  unfold drawC
  cases permOf (ps id) <;> rfl
theorem evCode_seq (x y : Code) : evCode cx call ps L (.seq x y) fs = seqK (evCode cx call ps L x fs) (evCode cx call ps L y) := by
  rw [evCode]
  generalize evCode cx call ps L x fs = r
  match r with
  | none => rfl
  | some (.norm, _) => rfl
  | some (.ret, _) => rfl
  | some (.exit _, _) => rfl
  | some (.pan _, _) => rfl
theorem evCode_cond (c : Operand) (x y : Code) : evCode cx call ps L (.cond c x y) fs = condK (rho fs.t c) (evCode cx call ps L x) (evCode cx call ps L y) fs := by
  rw [evCode]
  rfl
theorem evCode_block (id : Nat) (c : Code) : evCode cx call ps L (.block id c) fs = blockK id (evCode cx call ps L c fs) := by
  rw [evCode]
  generalize evCode cx call ps L c fs = r
  match r with
  | none => rfl
  | some (.norm, _) => rfl
  | some (.ret, _) => rfl
  | some (.exit _, _) => rfl
  | some (.pan _, _) => rfl
theorem evCode_loop (c : Code) : evCode cx call ps L (.loop c) fs = iter L (evCode cx call ps L c) fs := rfl
theorem evCode_exit (id : Nat) : evCode cx call ps L (.exit id) fs = some (.exit id, fs) := rfl
theorem evCode_ret : evCode cx call ps L .ret fs = some (.ret, fs) := rfl
end

/-! ### plain operations, one by one -/
section
variable {bq : Bool} {k : IntKind} {a b : Int} {p q : Bool} {s t : List UInt8}
theorem evBin_add : evBin bq .add (.int k a) (.int k b) = some (.int k (k.wrap (a + b))) := by simp [evBin]
theorem evBin_sub : evBin bq .sub (.int k a) (.int k b) = some (.int k (k.wrap (a - b))) := by simp [evBin]
theorem evBin_mul : evBin bq .mul (.int k a) (.int k b) = some (.int k (k.wrap (a * b))) := by simp [evBin]
theorem evBin_quo (h : b ≠ 0) : evBin bq .quo (.int k a) (.int k b) = some (.int k (k.wrap (a.tdiv b))) := by simp [evBin, h]
theorem evBin_rem (h : b ≠ 0) : evBin bq .rem (.int k a) (.int k b) = some (.int k (a.tmod b)) := by simp [evBin, h]
theorem evBin_eql : evBin bq .eql (.int k a) (.int k b) = some (.bool (a == b)) := by simp [evBin]
theorem evBin_neq : evBin bq .neq (.int k a) (.int k b) = some (.bool (a != b)) := by simp [evBin]
theorem evBin_lss : evBin bq .lss (.int k a) (.int k b) = some (.bool (decide (a < b))) := by simp [evBin]
theorem evBin_leq : evBin bq .leq (.int k a) (.int k b) = some (.bool (decide (a ≤ b))) := by simp [evBin]
theorem evBin_gtr : evBin bq .gtr (.int k a) (.int k b) = some (.bool (decide (b < a))) := by simp [evBin]
theorem evBin_geq : evBin bq .geq (.int k a) (.int k b) = some (.bool (decide (b ≤ a))) := by simp [evBin]
theorem evBin_eqlB : evBin true .eql (.bool p) (.bool q) = some (.bool (p == q)) := by simp [evBin]
theorem evBin_neqB : evBin true .neq (.bool p) (.bool q) = some (.bool (!(p == q))) := by simp [evBin]
theorem evBin_addS (h : s.length + t.length ≤ 4611686018427387904) : evBin bq .add (.str s) (.str t) = some (.str (s ++ t)) := by simp [evBin, h]
theorem evBin_eqlS : evBin bq .eql (.str s) (.str t) = some (.bool (s == t)) := by simp [evBin]
theorem evBin_neqS : evBin bq .neq (.str s) (.str t) = some (.bool (!(s == t))) := by simp [evBin]
theorem evBin_lssS : evBin bq .lss (.str s) (.str t) = some (.bool (Op.bytesLess s t)) := by simp [evBin]
theorem evBin_leqS : evBin bq .leq (.str s) (.str t) = some (.bool (Op.bytesLess s t || s == t)) := by simp [evBin]
end

/-! ### comparisons -/
section
variable {P : Program} {t : TypeId} {kc : Bool} {op : BinOp} {k k' : IntKind} {a b : Int} {p q : Bool} {s u : List UInt8} {ty : TypeId} {v : AV} {i o : Nat} {l : List AV}
theorem evB2_int : evB2 P t kc op (.int k a) (.int k' b) = evBin (boolQ P t) op (.int k a) (.int k' b) := rfl
theorem evB2_bool : evB2 P t kc op (.bool p) (.bool q) = evBin (boolQ P t) op (.bool p) (.bool q) := rfl
theorem evB2_str : evB2 P t kc op (.str s) (.str u) = evBin (boolQ P t) op (.str s) (.str u) := rfl
theorem evB2_eqi (h : ifcQ P t = true) : evB2 P t kc .eql (.iface ty v) .nilif = some (.bool false) := by simp [evB2, h, cmpN]
theorem evB2_nei (h : ifcQ P t = true) : evB2 P t kc .neq (.iface ty v) .nilif = some (.bool true) := by simp [evB2, h, cmpN]
theorem evB2_eqn (h : ifcQ P t = true) : evB2 P t true .eql .nilif .nilif = some (.bool true) := by simp [evB2, h, cmpN]
theorem evB2_nen (h : ifcQ P t = true) : evB2 P t true .neq .nilif .nilif = some (.bool false) := by simp [evB2, h, cmpN]
theorem evB2_peq (h : ptrQ P t = true) : evB2 P t kc .eql (.ptr i o) .nilp = some (.bool false) := by simp [evB2, h, cmpN]
theorem evB2_pne (h : ptrQ P t = true) : evB2 P t kc .neq (.ptr i o) .nilp = some (.bool true) := by simp [evB2, h, cmpN]
theorem evB2_req (h : ptrQ P t = true) : evB2 P t kc .eql (.ref l) .nilp = some (.bool false) := by simp [evB2, h, cmpN]
theorem evB2_rne (h : ptrQ P t = true) : evB2 P t kc .neq (.ref l) .nilp = some (.bool true) := by simp [evB2, h, cmpN]
theorem evB2_zeq (h : ptrQ P t = true) : evB2 P t kc .eql .nilp .nilp = some (.bool true) := by simp [evB2, h, cmpN]
theorem evB2_zne (h : ptrQ P t = true) : evB2 P t kc .neq .nilp .nilp = some (.bool false) := by simp [evB2, h, cmpN]
theorem isC_c (v : Value) : isC (.const v) = true := rfl
theorem isC_t (x : Tmp) : isC (.tmp x) = false := rfl
end
end Go.Proofs.YtcpoinfdnimanaaGreatDoor.AE
/- A callee by its contract: what it leaves of the world is what it found; texts in a row. No condition. -/
namespace Go.Proofs.YtcpoinfdnimanaaGreatDoor.AE
set_option linter.unusedVariables false
set_option linter.unusedSimpArgs false
open Go Go.RowKit

/-! ### parts of a struct or a slice, one by one (as a step ahead of the parts: simp would go under the map's binder and unfold all temporaries there) -/
def rhoP (t : Nat → AV) : List (Nat × Operand) → List (Nat × AV)
  | [] => []
  | (i, o) :: l => (i, rho t o) :: rhoP t l
theorem rhoP_nil (t : Nat → AV) : rhoP t [] = [] := rfl
theorem rhoP_cons (t : Nat → AV) (i : Nat) (o : Operand) (l : List (Nat × Operand)) : rhoP t ((i, o) :: l) = (i, rho t o) :: rhoP t l := rfl
theorem rhoP_map (t : Nat → AV) : ∀ l : List (Nat × Operand), (l.map fun p => (p.1, rho t p.2)) = rhoP t l
  | [] => rfl
  | (i, o) :: l => by rw [List.map_cons, rhoP_map t l, rhoP_cons]
section
variable {cx : Ctx} {call : Cal} {k : Nat} {fs : FS} {dst : Option Tmp} {ty0 : TypeId} {pos : String} {after : Array Edge} {guard : Option (Nat × Bool)}
theorem evOp_build (t : TypeId) (parts : Array (Nat × Operand)) : evOp cx call k { dst := dst, op := .build t parts, type := ty0, pos := pos, after := after, guard := guard } fs = goOp fs.S fs.b (evBuild cx.P t (rhoP fs.t parts.toList)) := by
  rw [← rhoP_map]; rfl
theorem evOp_bslice (t : TypeId) (len : Nat) (parts : Array (Nat × Operand)) : evOp cx call k { dst := dst, op := .buildSlice t len parts, type := ty0, pos := pos, after := after, guard := guard } fs = goOp fs.S fs.b (evBuildSlice cx.P t len (rhoP fs.t parts.toList)) := by
  rw [← rhoP_map]; rfl
end

/-- a world that has grown and turned nothing -/
theorem Inv.grow {w0 : World} {B : Nat} {G : Gh} {S : St} {w w' : World} (hi : Inv w0 B G S w) (hb : Below w.heap.size w w') : Inv w0 B G S w' ∧ Ext G w G w' := by
  have hlt : ∀ b o v, G.I b o = some v → b < w.heap.size := fun b o v h => World.block_lt_of_cell? w _ (hi.imm b o v h)
  have hbl : ∀ (k : Nat) o, w.heap[k]? = some o → w'.heap[k]? = some o := fun k o h => by
    rw [hb.block k (Array.getElem?_eq_some_iff.1 h).1, h]
  refine ⟨⟨hi.gl, hi.below.trans (hb.mono hi.base), Nat.le_trans hi.base hb.size, fun b o v h => ?_, hi.fr, fun i bx h hty => ?_, hi.phid, hi.phij, fun t n h => ?_, hi.taud, hi.tauj, fun i b h => ⟨(hi.phil i b h).1, Nat.lt_of_lt_of_le (hi.phil i b h).2 hb.size⟩, hi.tel, ?_⟩,
    ⟨.refl G, hb.size, fun _ _ h => .inl h, fun _ _ h => .inl h, fun _ _ _ h => .inl h, fun b h _ _ _ => hb.block b h, fun i v b m h => .inl ⟨v, m, h⟩⟩⟩
  · rw [hb.cell (p := ⟨b, o, none⟩) (hlt b o v h)]
    exact hi.imm b o v h
  · obtain ⟨b, vs, j1, j2, j3, j4, j5, j6, j7, j8⟩ := hi.box i bx h hty
    exact ⟨b, vs, j1, j2, hbl _ _ j3, j4, j5, j6, j7, j8⟩
  · obtain ⟨b, m, vs, ty, fz, j1, j2, j3, j4, j5, j6, j7⟩ := hi.tok t n h
    refine ⟨b, m, vs, ty, fz, j1, j2, hbl _ _ j3, j4, j5, fun o ho => ?_, j7⟩
    rw [hb.frozen (p := ⟨b, o, none⟩) (Array.getElem?_eq_some_iff.1 j3).1]
    exact j6 o ho
  · exact hi.ex.stay (.refl G) rfl (fun i bx _ h => h) (Nat.le_refl _) hb.size (fun b hs => hb.block b (hs.lt hi)) (fun b hs o => hs.I hi o) (fun i b h => .inl h) (fun t x h => .inl h)

/-- ROUNDS, each of less than the one ahead; any of them may end the loop. -/
theorem iter_meas {body : FS → Option (Out × FS)} {I : Nat → FS → Prop} {Q : Out × FS → Prop}
    (h : ∀ m fs, I m fs → ∃ o fs', body fs = some (o, fs') ∧ ((o = .norm ∧ ∃ m', m' < m ∧ I m' fs') ∨ (o ≠ .norm ∧ Q (o, fs')))) : ∀ (m L : Nat) (fs : FS), m < L → I m fs → ∃ r, iter L body fs = some r ∧ Q r := by
  intro m
  induction m using Nat.strongRecOn with
  | _ m ih =>
  intro L fs hL hI
  obtain ⟨L, rfl⟩ : ∃ k, L = k + 1 := ⟨L - 1, by omega⟩
  obtain ⟨o, fs', h1, h2⟩ := h m fs hI
  rcases h2 with ⟨rfl, m', hm, hI'⟩ | ⟨ho, hq⟩
  · obtain ⟨r, h3, h4⟩ := ih m' hm L fs' (by omega) hI'
    exact ⟨r, by simp only [iter, h1]; exact h3, h4⟩
  · refine ⟨(o, fs'), ?_, hq⟩
    simp only [iter, h1]
    cases o <;> first | rfl | exact absurd rfl ho

/-- likewise: for a rewrite with a condition -/
theorem skolemR {p : FS → Prop} {q : FS → Out × FS → Prop} (h : ∀ x, p x → ∃ y, q x y) : ∃ F : FS → Out × FS, ∀ x, p x → q x (F x) := by
  classical
  exact ⟨fun x => if h' : p x then (h x h').choose else (.norm, x), fun x hx => by
    have := (h x hx).choose_spec
    simp only [dif_pos hx]
    exact this⟩

def strsOf : List AV → Option (List (List UInt8))
  | [] => some []
  | .str s :: l => match strsOf l with
    | some r => some (s :: r) | none => none
  | _ :: _ => none

theorem strsOf_map : ∀ l : List (List UInt8), strsOf (l.map AV.str) = some l
  | [] => rfl
  | s :: l => by simp [strsOf, strsOf_map l]

theorem strsOf_inv : ∀ {es : List AV} {l : List (List UInt8)}, strsOf es = some l → es = l.map AV.str
  | [], l, h => by simp [strsOf] at h; subst h; rfl
  | .str s :: es, l, h => by
    simp only [strsOf] at h
    split at h
    · rename_i r hr
      cases h
      rw [strsOf_inv hr]; rfl
    · cases h
  | .junk :: _, _, h => by simp [strsOf] at h
  | .undef :: _, _, h => by simp [strsOf] at h
  | .bool _ :: _, _, h => by simp [strsOf] at h
  | .int _ _ :: _, _, h => by simp [strsOf] at h
  | .agg _ :: _, _, h => by simp [strsOf] at h
  | .tup _ :: _, _, h => by simp [strsOf] at h
  | .slice _ _ :: _, _, h => by simp [strsOf] at h
  | .nilp :: _, _, h => by simp [strsOf] at h
  | .ref _ :: _, _, h => by simp [strsOf] at h
  | .loc .. :: _, _, h => by simp [strsOf] at h
  | .ptr .. :: _, _, h => by simp [strsOf] at h
  | .fn .. :: _, _, h => by simp [strsOf] at h
  | .iface .. :: _, _, h => by simp [strsOf] at h
  | .nilif :: _, _, h => by simp [strsOf] at h

theorem flatQ_strs : ∀ l : List (List UInt8), flatQ (l.map AV.str) = some (l.map AV.str)
  | [] => rfl
  | s :: l => by simp [flatQ, AV.cells?, flatQ_strs l]

theorem VRL_strs {G : Gh} : ∀ {l : List (List UInt8)} {vs : List Value}, VRL G (l.map AV.str) vs → ∃ xs : List ByteArray, vs = xs.map Value.string ∧ xs.map (·.data.toList) = l
  | [], vs, h => by cases h; exact ⟨[], rfl, rfl⟩
  | s :: l, vs, h => by
    cases h with
    | cons _ v _ m ha hl =>
      obtain ⟨p, rfl, rfl⟩ := ha.inv_str
      obtain ⟨xs, rfl, rfl⟩ := VRL_strs hl
      exact ⟨p :: xs, rfl, rfl⟩

/-- into a function that defers -/
theorem ev_enterD {P : Program} {E : Env} {n : Nat} {f : FuncId} {args : List AV} {S : St} {fn : Func} {c A B : Code} {ops : Array Oper} {d : Call} (hok : E.ok f = true) (hdf : E.dfr f = true) (hf : P.funcs[f]? = some fn) (hb : fn.body = some c) (hc : cutD c = some (A, ops, d, B))
    (hn : args.length ≤ fn.ntmps) (hname : (fn.name == "runtime.NumGoroutine") = false) :
    ev P E (n + 1) f args S = (match evCode ⟨P, E.esc f, n⟩ (ev P E n) (E.ps f) n A ⟨argsA args, fun _ => (0, []), 0, S⟩ with
      | some (.norm, fs1) =>
        match seqA ⟨P, E.esc f, n⟩ (ev P E n) ops (List.range (ops.size - 1)) fs1 with
        | some (.ok fs2 _) =>
          match d.callee with
          | .value w =>
            match rho fs2.t w with
            | .fn g first cap => fromD P ⟨P, E.esc f, n⟩ (evd P E n) g (first ++ (rhoL fs2.t d.args ++ cap)) S fn.results.toList (evCode ⟨P, E.esc f, n⟩ (ev P E n) (E.ps f) n B ⟨fs2.t, fs2.b, fs2.c + ops.size, fs2.S⟩)
            | _ => none
          | _ => none
        | _ => none
      | some (.ret, fs1) => fromBody P ⟨P, E.esc f, n⟩ S fn.results.toList (some (.ret, fs1))
      | some (.pan v, fs1) => finPan S v fs1.S
      | _ => none) := by
  have hev : ev P E (n + 1) f args S = (if E.ok f then (if E.dfr f then evFuncD P E (ev P E n) (evd P E n) n f args S else if E.fork f then evFork (evFunc P E (ev P E n) n f) args S else evFunc P E (ev P E n) n f args S) else E.ext f args S) := rfl
  rw [hev, if_pos hok, if_pos hdf, evFuncD, hf]
  simp only [hb]
  rw [if_pos ⟨hn, hname⟩, hc]
  rfl
/-- into a deferred function -/
theorem evd_enter {P : Program} {E : Env} {n : Nat} {f : FuncId} {args : List AV} {S : St} {pv : Option AV} (hok : E.ok f = true) : evd P E (n + 1) f args S pv = evDefer P E (ev P E n) n f args S pv := by
  have hev : evd P E (n + 1) f args S pv = (if E.ok f then evDefer P E (ev P E n) n f args S pv else none) := rfl
  rw [hev, if_pos hok]
end Go.Proofs.YtcpoinfdnimanaaGreatDoor.AE
/- The evaluator's rewriting lemmas, as one set for simp. No condition. -/
namespace Go.Proofs.YtcpoinfdnimanaaGreatDoor.AE
open Go
attribute [simp ↓] evOp_build evOp_bslice
attribute [simp] drawC_none permOf evBuiltinQ mkQ evB2_int evB2_bool evB2_str evB2_eqi evB2_nei evB2_eqn evB2_nen evB2_peq evB2_pne evB2_req evB2_rne evB2_zeq evB2_zne isC_c isC_t evAssert rhoP_nil rhoP_cons evCode_skip evCode_region evCode_draw evCode_seq evCode_cond evCode_block evCode_loop evCode_exit evCode_ret seqK_ite seqK_none seqK_norm seqK_ret seqK_exit seqK_pan condK_true condK_false condK_bool blockK_ite blockK_none blockK_norm blockK_ret blockK_exit blockK_pan stepK_ite stepK_none stepK_ok stepK_pan drawK_ite drawK_none drawK_ok drawK_pan opK_ite opK_none opK_val opK_pan wantK_true wantK_false wantK_some afterRegion_ite afterDraw_ite fromBody_ite ite_bool ite_int stepA_K doOp noOp lexA_nil lexA_cons lexF_nil lexF_cons afterDraw noClash panIn lostF FP.clash wantedA evOp rho rhoL ofC0 ofC argsA upd afterRegion putA goOp evBin_add evBin_sub evBin_mul evBin_quo evBin_rem evBin_eql evBin_neq evBin_lss evBin_leq evBin_gtr evBin_geq evBin_eqlB evBin_neqB evBin_addS evBin_eqlS evBin_neqS evBin_lssS evBin_leqS evUn evConv evIndex evBuiltin evLen evMin2 evMax2 evCallee evBox evLoad evStore evFieldAddr evField evIndexAddr evBuild evBuildSlice evElems evSlice nth rdc wrc fromBody resA finRet oneOf
end Go.Proofs.YtcpoinfdnimanaaGreatDoor.AE
/- Values that hold no address and no token; lists that grow by append; rounds of a loop. No condition. -/
namespace Go.Proofs.YtcpoinfdnimanaaGreatDoor.AE
set_option linter.unusedVariables false
set_option linter.unusedSimpArgs false
open Go

mutual
/-- nothing of it leads outside, nothing of it is to be appended to -/
def AV.flat : AV → Bool
  | .junk => true | .undef => true | .bool _ => true | .int _ _ => true | .str _ => true | .nilp => true | .nilif => true | .nilm => true
  | .agg cs => AV.flatL cs | .tup cs => AV.flatL cs | .ref cs => AV.flatL cs
  | .slice es .non => AV.flatL es | .slice es .clip => AV.flatL es | .slice _ _ => false
  | .fn _ a b => AV.flatL a && AV.flatL b
  | .iface _ v => v.flat
  | _ => false
def AV.flatL : List AV → Bool
  | [] => true
  | a :: l => a.flat && AV.flatL l
end
mutual
theorem flat_spec : ∀ a : AV, a.flat = true → a.sealed = true ∧ (∀ t, a.strip t = a) ∧ ∀ h t, a.low h t = true
  | .junk, _ => ⟨rfl, fun _ => rfl, fun _ _ => rfl⟩
  | .undef, _ => ⟨rfl, fun _ => rfl, fun _ _ => rfl⟩
  | .bool _, _ => ⟨rfl, fun _ => rfl, fun _ _ => rfl⟩
  | .int _ _, _ => ⟨rfl, fun _ => rfl, fun _ _ => rfl⟩
  | .str _, _ => ⟨rfl, fun _ => rfl, fun _ _ => rfl⟩
  | .nilp, _ => ⟨rfl, fun _ => rfl, fun _ _ => rfl⟩
  | .nilif, _ => ⟨rfl, fun _ => rfl, fun _ _ => rfl⟩
  | .nilm, _ => ⟨rfl, fun _ => rfl, fun _ _ => rfl⟩
  | .agg cs, h => by
    obtain ⟨a, b, c⟩ := flatL_spec cs h
    exact ⟨a, fun t => by simp only [AV.strip, b t], fun h t => by simp only [AV.low, c h t]⟩
  | .tup cs, h => by
    obtain ⟨a, b, c⟩ := flatL_spec cs h
    exact ⟨a, fun t => by simp only [AV.strip, b t], fun h t => by simp only [AV.low, c h t]⟩
  | .ref cs, h => by
    obtain ⟨a, b, c⟩ := flatL_spec cs h
    exact ⟨a, fun t => by simp only [AV.strip, b t], fun h t => by simp only [AV.low, c h t]⟩
  | .slice cs .non, h => by
    obtain ⟨a, b, c⟩ := flatL_spec cs h
    exact ⟨a, fun t => by simp only [AV.strip, b t], fun h t => by simp only [AV.low, c h t]⟩
  | .slice cs .clip, h => by
    obtain ⟨a, b, c⟩ := flatL_spec cs h
    exact ⟨a, fun t => by simp only [AV.strip, b t], fun h t => by simp only [AV.low, c h t]⟩
  | .slice cs (.own _ _), h => by simp [AV.flat] at h
  | .slice cs (.knil _), h => by simp [AV.flat] at h
  | .fn f x y, h => by
    simp only [AV.flat, Bool.and_eq_true] at h
    obtain ⟨a, b, c⟩ := flatL_spec x h.1
    obtain ⟨a', b', c'⟩ := flatL_spec y h.2
    exact ⟨by simp [AV.sealed, a, a'], fun t => by simp only [AV.strip, b t, b' t], fun h t => by simp [AV.low, c h t, c' h t]⟩
  | .iface _ v, h => by
    obtain ⟨a, b, c⟩ := flat_spec v h
    exact ⟨a, fun t => by simp only [AV.strip, b t], fun h t => by simp only [AV.low, c h t]⟩
  | .loc .., h => by simp [AV.flat] at h
  | .ptr .., h => by simp [AV.flat] at h
  | .sl .., h => by simp [AV.flat] at h
  | .rp .., h => by simp [AV.flat] at h
  | .mp .., h => by simp [AV.flat] at h
theorem flatL_spec : ∀ l : List AV, AV.flatL l = true → AV.sealedL l = true ∧ (∀ t, AV.stripL t l = l) ∧ ∀ h t, AV.lowL h t l = true
  | [], _ => ⟨rfl, fun _ => rfl, fun _ _ => rfl⟩
  | a :: l, h => by
    simp only [AV.flatL, Bool.and_eq_true] at h
    obtain ⟨x, y, z⟩ := flat_spec a h.1
    obtain ⟨x', y', z'⟩ := flatL_spec l h.2
    exact ⟨by simp [AV.sealedL, x, x'], fun t => by simp only [AV.stripL, y t, y' t], fun h t => by simp [AV.lowL, z h t, z' h t]⟩
end
theorem flatL_append (a b : List AV) : AV.flatL (a ++ b) = (AV.flatL a && AV.flatL b) := by
  induction a with
  | nil => simp [AV.flatL]
  | cons x a ih => simp [AV.flatL, ih, Bool.and_assoc]
theorem flatL_map {α : Type} (f : α → AV) (l : List α) (h : ∀ x ∈ l, (f x).flat = true) : AV.flatL (l.map f) = true := by
  induction l with
  | nil => rfl
  | cons x l ih =>
    simp only [List.map_cons, AV.flatL, Bool.and_eq_true]
    exact ⟨h x (by simp), ih fun y hy => h y (by simp [hy])⟩
theorem fin_flat {v : AV} (h : v.flat = true) (S : St) : finish S v S = some (v, S) := by
  obtain ⟨a, b, c⟩ := flat_spec v h
  exact finish_same a (b _) (c _ _) rfl rfl
/-- what was made new, with tokens that begin here, and boxes as they were -/
theorem fin_strip {S S' : St} {v u : AV} (hs : v.sealed = true) (hu : v.strip S.T.length = u) (hl : u.low S.H.length S.T.length = true) (hH : S'.H = S.H) (hT : S'.T.take S.T.length = S.T) : finish S v S' = some (u, S) := by
  have hb : boxEqL (S'.H.take S.H.length) S.H = true := by rw [hH, List.take_length]; exact boxEqL_refl _
  unfold finish
  rw [if_pos hs, hu, if_pos (by simp [hb, hT, hl])]

attribute [simp] fillA
/-! ### functions that ask whether a slice is nil -/
theorem evFunc_enter {P : Program} {E : Env} {n : Nat} {f : FuncId} {args : List AV} {S : St} {fn : Func} {c : Code} (hf : P.funcs[f]? = some fn) (hb : fn.body = some c) (hn : args.length ≤ fn.ntmps) (hname : (fn.name == "runtime.NumGoroutine") = false) :
    evFunc P E (ev P E n) n f args S = fromBody P ⟨P, E.esc f, n⟩ S fn.results.toList (evCode ⟨P, E.esc f, n⟩ (ev P E n) (E.ps f) n c ⟨argsA args, fun _ => (0, []), 0, S⟩) := by
  rw [evFunc, hf]
  simp only [hb]
  rw [if_pos ⟨hn, hname⟩]
theorem ev_fork {P : Program} {E : Env} {n : Nat} {f : FuncId} {args : List AV} {S : St} (hok : E.ok f = true) (hfk : E.fork f = true := by rfl) (hdf : E.dfr f = false := by rfl) : ev P E (n + 1) f args S = evFork (evFunc P E (ev P E n) n f) args S := by
  have hev : ev P E (n + 1) f args S = (if E.ok f then (if E.dfr f then evFuncD P E (ev P E n) (evd P E n) n f args S else if E.fork f then evFork (evFunc P E (ev P E n) n f) args S else evFunc P E (ev P E n) n f args S) else E.ext f args S) := rfl
  rw [hev, if_pos hok, if_neg (by rw [hdf]; simp), if_pos hfk]
theorem evB2_nil {P : Program} {t : TypeId} {b : Bool} (h : (sliceQ P t).isSome = true) : evB2 P t true .eql (.slice [] (.knil b)) (.slice [] .clip) = some (.bool b) := by simp [evB2, h, cmpN]
theorem evB2_cons {P : Program} {t : TypeId} {a : AV} {l : List AV} {tok : Tok} (h : (sliceQ P t).isSome = true) : evB2 P t true .eql (.slice (a :: l) tok) (.slice [] .clip) = some (.bool false) := by simp [evB2, h, cmpN]
/-! ### a list that grows -/
def tokE (es : List AV) : Tok := if es.isEmpty then .clip else .non
/-- its token and what is outside, while it grows (from nothing, where S was outside) -/
def accT (S : St) (sz : Nat) (es : List AV) : Tok := if es.isEmpty then .clip else .own S.T.length (es.length * sz)
def accS (S : St) (sz : Nat) (es : List AV) : St := if es.isEmpty then S else { S with T := S.T ++ [es.length * sz] }
theorem accT_nil (S : St) (sz : Nat) : accT S sz [] = .clip := rfl
theorem accS_nil (S : St) (sz : Nat) : accS S sz [] = S := rfl
theorem accS_H (S : St) (sz : Nat) (es : List AV) : (accS S sz es).H = S.H := by unfold accS; split <;> rfl
theorem accS_T (S : St) (sz : Nat) (es : List AV) : (accS S sz es).T.take S.T.length = S.T := by unfold accS; split <;> simp
theorem sizesOk_map {α : Type} (n : Nat) (f : α → AV) (l : List α) (h : ∀ x, ∃ cs, (f x).cells? = some cs ∧ cs.length = n) : sizesOk n (l.map f) = true := by
  induction l with
  | nil => rfl
  | cons x l ih =>
    obtain ⟨cs, h1, h2⟩ := h x
    simp [sizesOk, h1, h2, ih]
theorem acc_append {P : Program} {ty tx e : TypeId} {sz bt : Nat} {z : List AV} {d : TypeDesc} (h1 : sliceQ P ty = some e) (h2 : P.underlying tx = some d) (h2' : ∀ k, d ≠ .int k) (h3 : zeroQ P e = some z) (h4 : z.length = sz) (h5 : sz ≠ 0) (h6 : P.cellsOf e = sz) (h7 : P.bytesOf e = bt) (h8 : bt ≠ 0)
    (S : St) (es xs : List AV) (tok : Tok) (g1 : sizesOk sz es = true) (g2 : sizesOk sz xs = true) (g3 : (es.length + xs.length) * bt ≤ 70368744177664) (g4 : (es.length + xs.length) * sz ≤ 70368744177664) :
    evAppend P [ty, tx] (.slice es (accT S sz es)) (.slice xs tok) (accS S sz es) = some (.slice (es ++ xs) (accT S sz (es ++ xs)), accS S sz (es ++ xs)) := by
  have key : ∀ tk S', evAppend P [ty, tx] (.slice es tk) (.slice xs tok) S' = (if xs = [] then some (.slice es tk, S')
            else match tk with
              | .clip => some (.slice (es ++ xs) (.own S'.T.length ((es.length + xs.length) * sz)), { S' with T := S'.T ++ [(es.length + xs.length) * sz] })
              | .own k pos => if S'.T[k]? = some pos then some (.slice (es ++ xs) (.own k (pos + xs.length * sz)), { S' with T := S'.T.set k (pos + xs.length * sz) }) else none
              | _ => none) := fun tk S' => by
    unfold evAppend
    cases d with
    | int k => exact absurd rfl (h2' k)
    | _ =>
      simp only [h1, h2, elemsOf, h3, h6, h7]
      rw [if_pos ⟨h4, by omega, h8, g3, g4, g1, g2⟩]
      cases tk <;> rfl
  unfold accT accS
  by_cases he : es = []
  · subst he
    simp only [List.isEmpty_nil, if_true, List.nil_append, key]
    by_cases hx : xs = []
    · subst hx; simp
    · have : xs.isEmpty = false := by cases xs <;> simp_all
      simp [hx, this]
  · have hne : es.isEmpty = false := by cases es <;> simp_all
    have hne' : (es ++ xs).isEmpty = false := by cases es <;> simp_all
    simp only [hne, hne', Bool.false_eq_true, if_false, key]
    by_cases hx : xs = []
    · subst hx; simp
    · rw [if_neg hx, if_pos (by simp)]
      simp [List.length_append, Nat.add_mul]
theorem acc_sealed (S : St) (sz : Nat) (es : List AV) (h : AV.flatL es = true) : AV.sealed (.slice es (accT S sz es)) = true := (flatL_spec es h).1
theorem acc_strip (S : St) (sz : Nat) (es : List AV) (h : AV.flatL es = true) : AV.strip S.T.length (.slice es (accT S sz es)) = .slice es (tokE es) := by
  obtain ⟨a, b, c⟩ := flatL_spec es h
  unfold accT tokE
  split
  · rename_i he
    have : es = [] := by cases es <;> simp_all
    subst this
    rfl
  · simp [AV.strip, b]
theorem tokE_flat (es : List AV) (h : AV.flatL es = true) : AV.flat (.slice es (tokE es)) = true := by
  unfold tokE; split <;> exact h
/-- a value with what has grown in it, handed back -/
theorem fin_acc {S : St} {sz : Nat} {es : List AV} {v u : AV} (hs : v.sealed = true) (hu : v.strip S.T.length = u) (hf : u.flat = true) : finish S v (accS S sz es) = some (u, S) :=
  fin_strip hs hu ((flat_spec u hf).2.2 _ _) (accS_H S sz es) (accS_T S sz es)
theorem fin_acc1 (S : St) (sz : Nat) (es : List AV) (h : AV.flatL es = true) : finish S (.slice es (accT S sz es)) (accS S sz es) = some (.slice es (tokE es), S) :=
  fin_acc (acc_sealed S sz es h) (acc_strip S sz es h) (tokE_flat es h)

/-! ### rounds -/
theorem for_loop {body : FS → Option (Out × FS)} {Inv : Nat → FS → Prop} {Q : Out × FS → Prop} {len L : Nat} (hL : len < L)
    (hr : ∀ i, i < len → ∀ fs, Inv i fs → ∃ o fs', body fs = some (o, fs') ∧ ((o = .norm ∧ Inv (i + 1) fs') ∨ (o ≠ .norm ∧ Q (o, fs'))))
    (he : ∀ fs, Inv len fs → ∃ o fs', body fs = some (o, fs') ∧ o ≠ .norm ∧ Q (o, fs')) : ∀ fs, Inv 0 fs → ∃ r, iter L body fs = some r ∧ Q r := fun fs h =>
  iter_meas (I := fun m fs => ∃ i, i + m = len ∧ Inv i fs) (fun m fs ⟨i, h1, h2⟩ => by
    cases m with
    | zero =>
      obtain ⟨o, fs', a, b, c⟩ := he fs (by rw [show len = i by omega]; exact h2)
      exact ⟨o, fs', a, .inr ⟨b, c⟩⟩
    | succ m =>
      obtain ⟨o, fs', a, b⟩ := hr i (by omega) fs h2
      refine ⟨o, fs', a, ?_⟩
      rcases b with ⟨b1, b2⟩ | b
      · exact .inl ⟨b1, m, by omega, i + 1, by omega, b2⟩
      · exact .inr b) len L fs hL ⟨0, by omega, h⟩
/-- a loop whose way out is known: as rules for a rewrite -/
theorem loop_out {body : FS → Option (Out × FS)} {L : Nat} {I : FS → Prop} {Q : Out × FS → Prop} (h : ∀ fs, I fs → ∃ r, iter L body fs = some r ∧ Q r) {o : Out} {R : FS → Prop} (hq : ∀ r, Q r → r.1 = o ∧ R r.2) :
    ∃ F : FS → FS, (∀ fs, I fs → iter L body fs = some (o, F fs)) ∧ ∀ fs, I fs → R (F fs) := by
  have : ∀ fs, I fs → ∃ fs', iter L body fs = some (o, fs') ∧ R fs' := fun fs hi => by
    obtain ⟨⟨o', fs'⟩, h1, h2⟩ := h fs hi
    obtain ⟨h3, h4⟩ := hq _ h2
    simp only at h3 h4
    subst h3
    exact ⟨fs', h1, h4⟩
  obtain ⟨F, hF⟩ := skolem this
  exact ⟨F, fun fs hi => (hF fs hi).1, fun fs hi => (hF fs hi).2⟩
/-- a loop that goes through all, and ends -/
theorem for_all {body : FS → Option (Out × FS)} (Inv : Nat → FS → Prop) (k len : Nat) {L : Nat} (hL : len < L)
    (hr : ∀ i, i < len → ∀ fs, Inv i fs → ∃ fs', body fs = some (.norm, fs') ∧ Inv (i + 1) fs') (he : ∀ fs, Inv len fs → ∃ fs', body fs = some (.exit k, fs') ∧ Inv len fs') :
    ∃ F : FS → FS, (∀ fs, Inv 0 fs → iter L body fs = some (.exit k, F fs)) ∧ ∀ fs, Inv 0 fs → Inv len (F fs) :=
  loop_out (Q := fun r => r.1 = .exit k ∧ Inv len r.2) (for_loop hL (fun i hi fs h => by
    obtain ⟨fs', h1, h2⟩ := hr i hi fs h
    exact ⟨.norm, fs', h1, .inl ⟨rfl, h2⟩⟩) (fun fs h => by
    obtain ⟨fs', h1, h2⟩ := he fs h
    exact ⟨.exit k, fs', h1, by simp, rfl, h2⟩)) fun r h => h
/-- a loop that ends ahead of its end, in round j -/
theorem for_stop {body : FS → Option (Out × FS)} (Inv : Nat → FS → Prop) (o : Out) (R : FS → Prop) (j : Nat) {L : Nat} (hL : j < L) (ho : o ≠ .norm)
    (hr : ∀ i, i < j → ∀ fs, Inv i fs → ∃ fs', body fs = some (.norm, fs') ∧ Inv (i + 1) fs') (he : ∀ fs, Inv j fs → ∃ fs', body fs = some (o, fs') ∧ R fs') :
    ∃ F : FS → FS, (∀ fs, Inv 0 fs → iter L body fs = some (o, F fs)) ∧ ∀ fs, Inv 0 fs → R (F fs) :=
  loop_out (Q := fun r => r.1 = o ∧ R r.2) (for_loop hL (fun i hi fs h => by
    obtain ⟨fs', h1, h2⟩ := hr i hi fs h
    exact ⟨.norm, fs', h1, .inl ⟨rfl, h2⟩⟩) (fun fs h => by
    obtain ⟨fs', h1, h2⟩ := he fs h
    exact ⟨o, fs', h1, ho, rfl, h2⟩)) fun r h => h
end Go.Proofs.YtcpoinfdnimanaaGreatDoor.AE
