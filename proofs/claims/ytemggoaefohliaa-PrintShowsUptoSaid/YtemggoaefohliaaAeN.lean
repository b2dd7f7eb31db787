/- THE EVALUATOR IS SOUND: what it gives for a call is what the model gives. Condition: the checks 'codeOk' of the functions that it follows. -/
import Derived.Test.YtemggoaefohliaaAeM
import Derived.Deep.LoopGhost
namespace Go.Proofs.Ytemggoaefohliaa.AE
set_option linter.unusedVariables false
set_option linter.unusedSimpArgs false
open Go Go.RowKit

def codeOk (nt : Nat) (ps : Nat → List (Nat × Nat)) : Code → Bool
  | .region id ops d => (ops.all fun o => match o.dst with | some d => decide (d < nt) | none => true) && (!d || drawOk ops (ps id))
  | .seq x y => codeOk nt ps x && codeOk nt ps y
  | .cond _ x y => codeOk nt ps x && codeOk nt ps y
  | .block _ c => codeOk nt ps c
  | .loop c => codeOk nt ps c
  | _ => true

def CodeP (F : Fix) (nt : Nat) (r : Out × FS) (Q : Exit → Act → World → Prop) : Prop :=
  match r.1 with
  | .norm => ∀ G a w, FR F nt (fun _ => False) r.2 G a w → Q .normal a w
  | .exit id => ∀ G a w, FR F nt (fun _ => False) r.2 G a w → Q (.exit id) a w
  | .ret => ∀ G a w, FR F nt (fun _ => False) r.2 G a w → Q .ret a w
  | .pan v => ∀ D G a w v', FR F nt D r.2 G a w → VR G v v' → Q (.panic [{ v := v', recovered := false }]) a w

theorem FR.region {F : Fix} {nt : Nat} {fs : FS} {G : Gh} {a : Act} {w : World} {n : Nat} (h : FR F nt (fun j => j < n) fs G a w) : FR F nt (fun _ => False) ⟨fs.t, fs.b, fs.c + n, fs.S⟩ G a w :=
  ⟨⟨h.pre.inv, h.pre.ext, h.pre.loc⟩, h.tm, h.nt, h.df, h.nul, fun v hv => (h.nud v hv).elim (fun h => .inl (by show v ≤ fs.c + n; omega)) (fun ⟨j, h1, h2⟩ => .inl (by show v ≤ fs.c + n; omega)), h.nue⟩

theorem evCode_sound {F : Fix} {nt : Nat} {call : Cal} {ps : Nat → List (Nat × Nat)} {L : Nat} (hm : F.cx.P.follows .mixedOrders = true) (hc : CalOK F.cx.P call F.cx.dep) :
    ∀ (c : Code), codeOk nt ps c = true → ∀ (fs : FS) (r : Out × FS), evCode F.cx call ps L c fs = some r → ∀ (G : Gh) (a : Act) (w : World), FR F nt (fun _ => False) fs G a w → ∀ Q, CodeP F nt r Q → c.wp F.cx.P Q a w := by
  intro c
  induction c with
  | skip => intro _ fs r h G a w hfr Q hq; cases h; exact wp_skip (hq G a w hfr)
  | exit id => intro _ fs r h G a w hfr Q hq; cases h; exact wp_exit (hq G a w hfr)
  | ret => intro _ fs r h G a w hfr Q hq; cases h; exact wp_ret (hq G a w hfr)
  | region id ops d =>
    intro hok fs r h G a w hfr Q hq
    simp only [codeOk, Bool.and_eq_true] at hok
    have hd : ∀ (i : Nat) o, ops[i]? = some o → ∀ d, o.dst = some d → d < nt := fun i o ho d hd => by
      have := (Array.all_eq_true'.1 hok.1) o (Array.mem_of_getElem? ho)
      rw [hd] at this
      simpa using this
    cases d with
    | false =>
      simp only [evCode] at h
      rw [lexA_range] at h
      cases hs : seqA F.cx call ops (List.range ops.size) fs with
      | none => rw [hs] at h; cases h
      | some s =>
        rw [hs] at h
        have hok' := seqA_sound hd hc (List.range ops.size) (fun _ => False) fs G a w List.nodup_range (fun _ _ h => h) hfr s hs
        refine wp_region ?_
        cases s with
        | ok fs' fp =>
          cases h
          refine hok' Q fun G' a' w' h' => hq G' a' w' ?_
          exact FR.region (h'.weak fun j hj => by rcases hj with hj | hj; exact hj.elim; exact List.mem_range.1 hj)
        | pan v fs' =>
          cases h
          exact hok' Q fun D' G' a' w' v' h' hv => hq D' G' a' w' v' h' hv
    | true =>
      simp only [evCode] at h
      cases hs : lexF F.cx call ops 0 ops.toList fs [] with
      | none => rw [hs] at h; cases h
      | some s =>
        obtain ⟨fs', fps⟩ := s
        rw [hs] at h
        simp only [afterDraw] at h
        split at h
        · rename_i hcl
          cases h
          exact draw_sound hm hd hc (by simpa using hok.2) hfr hs hcl fun G' a' w' h' => hq G' a' w' (FR.region h')
        · cases h
  | seq x y ihx ihy =>
    intro hok fs r h G a w hfr Q hq
    simp only [codeOk, Bool.and_eq_true] at hok
    simp only [evCode] at h
    refine wp_seq ?_
    split at h
    · rename_i fs' hx
      refine ihx hok.1 fs _ hx G a w hfr _ ?_
      exact fun G' a' w' h' => ihy hok.2 fs' r h G' a' w' h' Q hq
    · rename_i hne
      refine ihx hok.1 fs r h G a w hfr _ ?_
      obtain ⟨o, fs'⟩ := r
      cases o with
      | norm => exact absurd h (hne fs')
      | exit id => exact hq
      | ret => exact hq
      | pan v => exact hq
  | cond c x y ihx ihy =>
    intro hok fs r h G a w hfr Q hq
    simp only [codeOk, Bool.and_eq_true] at hok
    simp only [evCode] at h
    have hr := rho_VR hfr.tm c
    split at h
    · rename_i e
      rw [e] at hr
      exact wp_cond_true hr.inv_bool (ihx hok.1 fs r h G a w hfr Q hq)
    · rename_i e
      rw [e] at hr
      exact wp_cond_false hr.inv_bool (ihy hok.2 fs r h G a w hfr Q hq)
    · cases h
  | block id c ih =>
    intro hok fs r h G a w hfr Q hq
    simp only [codeOk] at hok
    simp only [evCode] at h
    refine wp_block ?_
    split at h
    · rename_i k fs' hx
      refine ih hok fs _ hx G a w hfr _ ?_
      intro G' a' w' h'
      split at h
      · rename_i hk
        cases h
        subst hk
        simp only [Exit.inBlock, if_true]
        exact hq G' a' w' h'
      · rename_i hk
        cases h
        simp only [Exit.inBlock, hk, if_false]
        exact hq G' a' w' h'
    · rename_i hne
      refine ih hok fs r h G a w hfr _ ?_
      obtain ⟨o, fs'⟩ := r
      cases o with
      | norm => exact hq
      | exit id' => exact absurd h (hne id' fs')
      | ret => exact hq
      | pan v => exact hq
  | loop c ih =>
    intro hok fs r h G a w hfr Q hq
    simp only [codeOk] at hok
    simp only [evCode] at h
    refine wp_loop_ghost (fun n a w => ∃ fs G, FR F nt (fun _ => False) fs G a w ∧ iter n (evCode F.cx call ps L c) fs = some r) L ⟨fs, G, hfr, h⟩ ?_
    rintro n a w ⟨fs, G, hfr, h⟩
    cases n with
    | zero => cases h
    | succ n =>
      simp only [iter] at h
      split at h
      · rename_i fs' hx
        refine ih hok fs _ hx G a w hfr _ ?_
        exact fun G' a' w' h' => ⟨n, Nat.lt_succ_self n, fs', G', h', h⟩
      · rename_i hne
        refine ih hok fs r h G a w hfr _ ?_
        obtain ⟨o, fs'⟩ := r
        cases o with
        | norm => exact absurd h (hne fs')
        | exit id' => exact hq
        | ret => exact hq
        | pan v => exact hq
  | _ => intro _ fs r h; simp [evCode] at h

theorem evLoad_ptr {cx : Ctx} {fs : FS} {G : Gh} {t : TypeId} {x : AV} {xv : Value} {r : OR} (hx : VR G x xv) (h : evLoad cx t x fs = some r) : ∃ ad, xv = .pointer (some ad) := by
  unfold evLoad at h
  split at h
  · cases h
  · split at h
    · obtain ⟨b, o, rfl, _⟩ := hx.inv_ref; exact ⟨_, rfl⟩
    · obtain ⟨b, rfl, _⟩ := hx.inv_loc; exact ⟨_, rfl⟩
    · obtain ⟨b, rfl, _⟩ := hx.inv_ptr; exact ⟨_, rfl⟩
    · cases h

theorem resA_run {F : Fix} {nt : Nat} {D : Nat → Prop} {fs : FS} {G : Gh} {a : Act} {w : World} (h : FR F nt D fs G a w) : ∀ (rs : List ResultVar) (l : List AV), resA F.cx.P F.cx fs rs = some l →
    ∃ vs, (rs.mapM fun | .tmp t => pure (a.tmps.getD t undef) | .cell b t => do loadVar t (← asAddr (a.tmps.getD b undef)) : Sem (List Value)).run F.cx.P w = .ok vs w ∧ VRL G l vs
  | [], l, hr => by cases hr; exact ⟨[], by simp, .nil⟩
  | .tmp t :: rs, l, hr => by
    simp only [resA] at hr
    split at hr
    · rename_i r hrr
      cases hr
      obtain ⟨vs, h1, h2⟩ := resA_run h rs r hrr
      exact ⟨_ :: vs, by simp only [List.mapM_cons, Sem.run_bind, Sem.run_pure, Result.andThen_ok, h1], .cons _ _ _ _ (h.tm t) h2⟩
    · cases hr
  | .cell b t :: rs, l, hr => by
    simp only [resA] at hr
    split at hr
    · rename_i v b' S' fp r hv hrr
      cases hr
      obtain ⟨vs, h1, h2⟩ := resA_run h rs r hrr
      obtain ⟨ad, had⟩ := evLoad_ptr (h.tm b) hv
      obtain ⟨_, _, v', h3, h4⟩ := evLoad_run h.pre (h.tm b) hv
      rw [had] at h3
      simp only [Instr.loadAt, Instr.sureAddr, pure_bind] at h3
      have haa : (asAddr (a.tmps.getD b undef)).run F.cx.P w = .ok ad w := by rw [had]; rfl
      exact ⟨v' :: vs, by simp only [List.mapM_cons, Sem.run_bind, Sem.run_pure, Result.andThen_ok, haa, h3, h1], .cons _ _ _ _ h4 h2⟩
    · cases hr

theorem oneOf_VR {G : Gh} {l : List AV} {vs : List Value} (h : VRL G l vs) : VR G (oneOf l) (if h : vs.toArray.size = 1 then vs.toArray[0] else .tuple vs.toArray) := by
  cases h with
  | nil => simp [oneOf]; exact .tup [] #[] .nil
  | cons a v l m ha hl =>
    cases hl with
    | nil => simpa [oneOf] using ha
    | cons b u l m hb hl =>
      have : oneOf (a :: b :: l) = .tup (a :: b :: l) := rfl
      rw [this]
      simp
      exact .tup _ _ (by simpa using .cons _ _ _ _ ha (.cons _ _ _ _ hb hl))

/-- handed back: in the caller's own words, if they suffice -/
theorem finish_sound {w0 : World} {B : Nat} {G G' : Gh} {S S' S2 : St} {w w' : World} {v r : AV} {v' : Value} (hi : Inv w0 B G S w) (hi' : Inv w0 B G' S' w') (he : Ext G w G' w') (hv : VR G' v v') (h : finish S v S' = some (r, S2)) :
    ∃ G2, Inv w0 B G2 S2 w' ∧ Ext G w G2 w' ∧ G2.nu = G.nu ∧ VR G2 r v' := by
  have hfrd : ∀ {G : Gh} {S : St} {w : World}, Inv w0 B G S w → ∀ t n, G.fr t = some n → t < S.T.length := fun hi t n h => by
    rw [hi.fr] at h; exact (List.getElem?_eq_some_iff.1 h).1
  unfold finish at h
  split at h
  · rename_i hsl
    split at h
    · rename_i hc
      cases h
      simp only [Bool.and_eq_true, beq_iff_eq] at hc
      obtain ⟨⟨c1, c2⟩, c3⟩ := hc
      have c1 := boxEqL_spec _ _ c1
      let G2 : Gh := { I := G'.I, phi := fun i => if i < S.H.length then G'.phi i else none, nu := G.nu, tau := fun t => if t < S.T.length then G'.tau t else none, fr := fun t => S.T[t]? }
      have hT : ∀ t, t < S.T.length → S'.T[t]? = S.T[t]? := fun t ht => by
        have := congrArg (fun l : List Nat => l[t]?) c2
        simpa [List.getElem?_take, ht] using this
      have hH : ∀ i, i < S.H.length → S'.H[i]? = S.H[i]? := fun i hl => by
        have := congrArg (fun l : List HBox => l[i]?) c1
        simpa [List.getElem?_take, hl] using this
      have cut : Cut G' G2 S.H.length S.T.length := ⟨rfl, fun i hi => by simp [G2, hi], fun t ht => by simp [G2, ht], fun t ht => by
        show S.T[t]? = G'.fr t
        rw [hi'.fr, hT t ht]⟩
      have hphi : ∀ i b, G2.phi i = some b → i < S.H.length ∧ G'.phi i = some b := fun i b h => by
        by_cases hl : i < S.H.length
        · exact ⟨hl, by simpa [G2, hl] using h⟩
        · simp [G2, hl] at h
      have htau : ∀ t x, G2.tau t = some x → t < S.T.length ∧ G'.tau t = some x := fun t x h => by
        by_cases hl : t < S.T.length
        · exact ⟨hl, by simpa [G2, hl] using h⟩
        · simp [G2, hl] at h
      have le : Gle G G2 := by
        refine ⟨he.le.I, fun i b hb => ?_, fun _ _ _ h => h, fun t n hn => ?_⟩
        · have := hi.phid i b hb
          simp [G2, this, he.le.phi i b hb]
        · have ht := hfrd hi t n hn
          rw [hi.fr] at hn
          refine ⟨n, hn, Nat.le_refl _, fun _ => ?_⟩
          obtain ⟨n', e1, e2, e3⟩ := he.le.fr t n (by rw [hi.fr]; exact hn)
          rw [hi'.fr, hT t ht, hn] at e1
          cases e1
          simp [G2, ht, e3 rfl]
      refine ⟨G2, ⟨hi'.below, hi'.base, hi'.imm, fun _ => rfl, fun i bx hb => ?_, fun i b hb => (hphi i b hb).1, fun i j b h1 h2 => hi'.phij i j b (hphi i b h1).2 (hphi j b h2).2, fun t n hn => ?_, fun t x hx => (htau t x hx).1, fun t u b m m' h1 h2 => hi'.tauj t u b m m' (htau t _ h1).2 (htau u _ h2).2⟩,
        ⟨le, he.size, fun i b hb => he.phi i b (hphi i b hb).2, fun t x hx => he.tau t x (htau t x hx).2, he.I, he.keep⟩, rfl, ?_⟩
      · have hlt := (List.getElem?_eq_some_iff.1 hb).1
        obtain ⟨b0, vs0, _, _, _, k4, _⟩ := hi.box i bx hb
        obtain ⟨b, vs, j1, j2, j3, j4, j5, j6, j7, j8⟩ := hi'.box i bx (by rw [hH i hlt]; exact hb)
        exact ⟨b, vs, by simp [G2, hlt, j1], j2, j3, j4.cut cut j8 (k4.low (fun i b h => hi.phid i b h) (hfrd hi)), j5, j6, j7, j8⟩
      · have hlt := (List.getElem?_eq_some_iff.1 hn).1
        obtain ⟨b, m, vs, ty, fz, j1, j2, j3, j4, j5, j6, j7⟩ := hi'.tok t n (by rw [hT t hlt]; exact hn)
        exact ⟨b, m, vs, ty, fz, by simp [G2, hlt, j1], j2, j3, j4, j5, j6, fun i hb => j7 i (hphi i b hb).2⟩
      · exact (hv.strip S.T.length).cut cut (by rw [sealed_strip]; exact hsl) c3
    · cases h
      let G2 : Gh := { G' with nu := G.nu }
      have cut : Cut G' G2 S'.H.length S'.T.length := ⟨rfl, fun _ _ => rfl, fun _ _ => rfl, fun _ _ => rfl⟩
      refine ⟨G2, ⟨hi'.below, hi'.base, hi'.imm, hi'.fr, fun i bx hb => ?_, hi'.phid, hi'.phij, hi'.tok, hi'.taud, hi'.tauj⟩, ⟨⟨he.le.I, he.le.phi, fun _ _ _ h => h, he.le.fr⟩, he.size, he.phi, he.tau, he.I, he.keep⟩, rfl, hv.cut cut hsl (hv.low (fun i b h => hi'.phid i b h) (hfrd hi'))⟩
      obtain ⟨b, vs, j1, j2, j3, j4, j5, j6, j7, j8⟩ := hi'.box i bx hb
      exact ⟨b, vs, j1, j2, j3, j4.cut cut j8 (j4.low (fun i b h => hi'.phid i b h) (hfrd hi')), j5, j6, j7, j8⟩
  · cases h

/-- the environment is as it says: the functions that are followed pass the check, the others' answers are proved -/
structure EnvOK (P : Program) (E : Env) : Prop where
  mixed : P.follows .mixedOrders = true
  code : ∀ f fn c, E.ok f = true → P.funcs[f]? = some fn → fn.body = some c → codeOk fn.ntmps (E.ps f) c = true
  ext : ∀ f args S r S', E.ok f = false → E.ext f args S = some (r, S') →
    (∃ fn, P.funcs[f]? = some fn ∧ (fn.name == "runtime.NumGoroutine") = false ∧ fn.body.isSome = true) ∧
    ∀ (w0 : World) (B : Nat) (G : Gh) (w : World) (vs : Array Value), Inv w0 B G S w → VRL G args vs.toList →
      Calls P f vs w fun e w' => ∃ G', Inv w0 B G' S' w' ∧ Ext G w G' w' ∧ G'.nu = G.nu ∧ ResR G' r e

theorem args_VR {G : Gh} {args : List AV} {vs : Array Value} (h : VRL G args vs.toList) (n x : Nat) : VR G (argsA args x) ((vs ++ Array.replicate n undef).getD x undef) := by
  have hl := h.length
  simp at hl
  unfold argsA
  rw [Array.getD_eq_getD_getElem?, Array.getElem?_append]
  cases ha : args[x]? with
  | some a =>
    obtain ⟨v, h1, h2⟩ := h.get ha
    have hlt : x < vs.size := by
      have := (List.getElem?_eq_some_iff.1 ha).1; omega
    rw [if_pos hlt]
    simp at h1
    rw [h1]
    exact h2
  | none =>
    have hge : ¬ x < vs.size := by
      rw [List.getElem?_eq_none_iff] at ha; omega
    rw [if_neg hge, Array.getElem?_replicate]
    by_cases hx : x - vs.size < n
    · rw [if_pos hx]; exact .undef
    · rw [if_neg hx]; exact .undef

theorem ev_sound {P : Program} {E : Env} (hE : EnvOK P E) : ∀ n, CalOK P (ev P E n) n := by
  intro n
  induction n with
  | zero => intro f args S r S' h; cases h
  | succ n ih =>
    intro f args S r S' h
    simp only [ev] at h
    split at h
    · rename_i hok
      unfold evFunc at h
      split at h
      · cases h
      · rename_i fn hfn
        split at h
        · cases h
        · rename_i c hbody
          split at h
          · rename_i hcond
            refine ⟨⟨fn, hfn, hcond.2, by simp [hbody]⟩, fun w0 B G w vs hi hnu hargs => ?_⟩
            have hl := hargs.length
            simp at hl
            let F : Fix := { w0 := w0, B := B, Ge := G, we := w, Se := S, cx := ⟨P, E.esc f, n⟩, ie := hi }
            have hfr : FR F fn.ntmps (fun _ => False) ⟨argsA args, fun _ => (0, []), 0, S⟩ G { tmps := vs ++ Array.replicate (fn.ntmps - vs.size) undef, defers := [] } w :=
              ⟨⟨hi, .refl G w, ⟨fun d hd => absurd rfl hd, fun d e k hd => absurd rfl hd⟩⟩, fun x => args_VR hargs _ x, by simp; omega, rfl, fun d v hd => hnu d v (by have : d < n := hd; omega), fun v hv => absurd (hnu n v (by omega)) hv, fun _ _ _ => rfl⟩
            have hcal : CalOK F.cx.P (ev P E n) F.cx.dep := ih
            cases hev : evCode ⟨P, E.esc f, n⟩ (ev P E n) (E.ps f) n c ⟨argsA args, fun _ => (0, []), 0, S⟩ with
            | none => rw [hev] at h; cases h
            | some o =>
              rw [hev] at h
              refine calls_of_wp hfn hbody ?_
              refine evCode_sound (F := F) hE.mixed hcal c (hE.code f fn c hok hfn hbody) _ o hev G _ w hfr _ ?_
              obtain ⟨out, fs⟩ := o
              have fin : ∀ (G' : Gh) (a : Act) (w' : World), FR F fn.ntmps (fun _ => False) fs G' a w' → (match resA P ⟨P, E.esc f, n⟩ fs fn.results.toList with | some vs => finRet S (oneOf vs) fs.S | none => none) = some (r, S') →
                  a.defers = [] ∧ ∃ v, (results fn a.tmps).run P w' = .ok v w' ∧ ∃ G2, Inv w0 B G2 S' w' ∧ Ext G w G2 w' ∧ G2.nu = G.nu ∧ ResR G2 r (.returned v) := by
                intro G' a w' hfr' hres
                split at hres
                · rename_i l hl
                  obtain ⟨vs', h1, h2⟩ := resA_run hfr' fn.results.toList l hl
                  unfold finRet at hres
                  split at hres
                  · rename_i rv S2 hfin
                    cases hres
                    obtain ⟨G2, g1, g2, g3, g4⟩ := finish_sound hi hfr'.pre.inv hfr'.pre.ext (oneOf_VR h2) hfin
                    refine ⟨hfr'.df, _, ?_, G2, g1, g2, g3, g4⟩
                    unfold results
                    simp only [Sem.run_bind]
                    rw [Array.mapM_eq_mapM_toList]
                    simp only [Sem.run_map]
                    rw [show F.cx.P = P from rfl] at h1
                    erw [h1]
                    simp
                  · cases hres
                · cases hres
              cases out with
              | norm => exact fun G' a w' hfr' => fin G' a w' hfr' h
              | ret => exact fun G' a w' hfr' => fin G' a w' hfr' h
              | exit id => cases h
              | pan v =>
                intro D G' a w' v' hfr' hv
                simp only [fromBody, finPan] at h
                split at h
                · rename_i rv S2 hfin
                  cases h
                  obtain ⟨G2, g1, g2, g3, g4⟩ := finish_sound hi hfr'.pre.inv hfr'.pre.ext hv hfin
                  exact ⟨hfr'.df, G2, g1, g2, g3, v', rfl, g4⟩
                · cases h
          · cases h
    · rename_i hok
      obtain ⟨h1, h2⟩ := hE.ext f args S r S' (by simpa using hok) h
      exact ⟨h1, fun w0 B G w vs hi _ ha => h2 w0 B G w vs hi ha⟩
end Go.Proofs.Ytemggoaefohliaa.AE
