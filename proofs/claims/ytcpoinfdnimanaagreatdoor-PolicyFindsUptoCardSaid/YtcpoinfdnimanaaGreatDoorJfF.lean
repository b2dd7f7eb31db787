/- Joined: PoA, PuS, SmA, PoB, PoC, PuA, PoD, PoE, PoF, PoG, CkA, CkB, CkC. No condition beyond those of its lemmas. -/
import Derived.Test.YtcpoinfdnimanaaGreatDoorJfE
import Derived.Test.YtcpoinfdnimanaaGreatDoorJfD
/- A copy of an expression, evaluated. No condition. -/
namespace Go.Proofs.YtcpoinfdnimanaaGreatDoor.PO
set_option linter.unusedVariables false
set_option linter.unusedSimpArgs false
open Go AE EX PT NF
set_option maxRecDepth 100000

mutual
/-- a copy -/
def cl : X → X
  | .mk k nm n lo hi _ kids => .mk k nm n lo hi kids.isEmpty (clL kids)
def clL : List X → List X
  | [] => []
  | x :: l => cl x :: clL l
end
theorem clL_map : ∀ l : List X, clL l = l.map cl
  | [] => rfl
  | x :: l => by simp [clL, clL_map l]
theorem clL_len (l : List X) : (clL l).length = l.length := by rw [clL_map, List.length_map]
mutual
theorem flat_emb : ∀ x : X, x.emb.flat = true
  | .mk k nm n lo hi tk kids => by cases tk <;> simp [X.emb, AV.flat, AV.flatL, tokOf, flat_embL kids]
theorem flat_embL : ∀ l : List X, AV.flatL (embL l) = true
  | [] => rfl
  | x :: l => by simp [embL, AV.flatL, flat_emb x, flat_embL l]
end
theorem sizes_embL (l : List X) : sizesOk 6 (embL l) = true := by rw [embL_map]; exact sizesOk_map 6 _ _ fun x => ⟨_, cells_ok x⟩
theorem tokE_embL (l : List X) : tokE (embL l) = tokOf l.isEmpty := by cases l <;> rfl

noncomputable def cln_p0 : Code := cutC (bodyOf Tryz.f30) [0]
noncomputable def cln_p1 : Code := cutC (bodyOf Tryz.f30) [1, 0]
noncomputable def cln_p2 : Code := cutC (bodyOf Tryz.f30) [1, 1, 0, 0]
noncomputable def cln_L0 : Code := cutC (bodyOf Tryz.f30) [1, 1, 0, 1, 0, 0]
noncomputable def cln_p3 : Code := cutC (bodyOf Tryz.f30) [1, 1, 1]
theorem cln_b : Tryz.f30.body = some (.seq cln_p0 (.seq cln_p1 (.seq (.seq cln_p2 (.block 0 (.loop cln_L0))) cln_p3))) := rfl

/-- ahead of a round -/
def ClnI (S0 : St) (kids : List X) (tk : Bool) (C : List AV) (n : Nat) (i : Nat) (fs : FS) : Prop :=
  fs.t 1 = .loc n 1 1 0 ∧ fs.b 1 = (1, C) ∧ fs.t 2 = .loc n 2 2 0 ∧ fs.b 2 = (2, [.int .i64 0, .str [], .int .i64 0, .int .i64 0, .int .i64 0, .slice [] .clip]) ∧ fs.t 3 = .slice (embL (clL (kids.take i))) (accT S0 6 (embL (clL (kids.take i)))) ∧ fs.t 7 = .slice (embL kids) (tokOf tk) ∧ fs.t 8 = .int .i64 kids.length ∧ fs.t 9 = .int .i64 i ∧ fs.S = accS S0 6 (embL (clL (kids.take i)))
theorem appX (S : St) (es xs : List AV) (tok : Tok) (g1 : sizesOk 6 es = true) (g2 : sizesOk 6 xs = true) (h : es.length + xs.length ≤ 16777216) : evAppend Tryz.prog [31, 31] (.slice es (accT S 6 es)) (.slice xs tok) (accS S 6 es) = some (.slice (es ++ xs) (accT S 6 (es ++ xs)), accS S 6 (es ++ xs)) :=
  acc_append (e := 33) (d := .slice 33) (z := [.int .i64 0, .str [], .int .i64 0, .int .i64 0, .int .i64 0, .slice [] .clip]) (sz := 6) (bt := 72) (by kernel_rfl) (by kernel_rfl) (fun _ h => by cases h) (by kernel_rfl) rfl (by decide) (by kernel_rfl) (by kernel_rfl) (by decide) S es xs tok g1 g2 (by omega) (by omega)
theorem app33 (S0 : St) (l : List X) (v : X) (tok : Tok) (h : l.length < 1048576) : evAppend Tryz.prog [31, 31] (.slice (embL l) (accT S0 6 (embL l))) (.slice [v.emb] tok) (accS S0 6 (embL l)) = some (.slice (embL (l ++ [v])) (accT S0 6 (embL (l ++ [v]))), accS S0 6 (embL (l ++ [v]))) := by
  have hl := embL_length l
  have := appX S0 (embL l) [v.emb] tok (sizes_embL l) (sizes_embL [v]) (by simp [hl]; omega)
  rwa [show embL l ++ [v.emb] = embL (l ++ [v]) by simp [embL_map]] at this
theorem cln_round (n : Nat) (S0 : St) (kids : List X) (tk : Bool) (C : List AV) (hs : kids.length ≤ 1048000)
    (hrec : ∀ x ∈ kids, ∀ S, ev Tryz.prog E n 30 [x.emb] S = some (.ret (cl x).emb, S)) (i : Nat) (hi : i < kids.length) (fs : FS) (h : ClnI S0 kids tk C n i fs) :
    ∃ fs', (evCode ⟨Tryz.prog, E.esc 30, n⟩ (ev Tryz.prog E n) (E.ps 30) n cln_L0) fs = some (.norm, fs') ∧ ClnI S0 kids tk C n (i + 1) fs' := by
  obtain ⟨t, b, v, S⟩ := fs
  obtain ⟨h1, h2, h3, h4, h5, h6, h7, h8, h9⟩ := h
  simp only at h1 h2 h3 h4 h5 h6 h7 h8 h9
  subst h9
  have hlen := embL_length kids
  have hiz : (i : Int) < kids.length := by omega
  have hxe : kids[i]? = some kids[i] := List.getElem?_eq_getElem hi
  have hr := hrec kids[i] (List.getElem_mem hi) (accS S0 6 (embL (clL (kids.take i))))
  have hsplit : clL (kids.take (i + 1)) = clL (kids.take i) ++ [cl kids[i]] := by simp only [clL_map, List.take_add_one, hxe, Option.toList, List.map_append, List.map_cons, List.map_nil]
  have hap := app33 S0 (clL (kids.take i)) (cl kids[i]) .clip (by rw [clL_len, List.length_take]; omega)
  have hemb : (embL kids)[i]? = some kids[i].emb := by rw [embL_map, List.getElem?_map, hxe]; rfl
  have hw : IntKind.i64.wrap ((i : Int) + 1) = (i : Int) + 1 := wrap64 _ (by omega)
  rw [← hsplit] at hap
  generalize kids[i] = x at *
  generalize cl x = y at *
  obtain ⟨k, nm, a, lo, hi', tk', ks⟩ := x
  obtain ⟨k2, nm2, a2, lo2, hi2, tk2, ks2⟩ := y
  simp only [X.emb] at hr hemb hap
  refine ⟨_, by
    simp (disch := first | (simp only [List.length_append, List.length_cons, List.length_nil]; omega) | (simp; done) | assumption) [AV.cells?, AV.isCell, cln_L0, cutC, bodyOf, Tryz.f30, h1, h2, h3, h4, h5, h6, h7, h8, hlen, hi, hiz, hemb, hr, hap]
    rfl, ?_⟩
  simp [ClnI, upd, h1, h2, h3, h4, h6, h7, hw]

theorem ev_aClone : ∀ (m : Nat) (x : X), x.size ≤ m → m ≤ 1048000 → ∀ n, m + 2 ≤ n → ∀ S, ev Tryz.prog E n 30 [x.emb] S = some (.ret (cl x).emb, S)
  | 0, x, hm, _, _, _, _ => absurd hm (by have := size_pos x; omega)
  | m + 1, x, hm, hmm, n, hn, S => by
    obtain ⟨n, rfl⟩ : ∃ k, n = k + 1 := ⟨n - 1, by omega⟩
    obtain ⟨k, nm, a, lo, hi, tk, kids⟩ := x
    simp only [X.size] at hm
    have hl := sizeL_length kids
    have hlen := embL_length kids
    obtain ⟨F, hF, hR⟩ := for_all (body := (evCode ⟨Tryz.prog, E.esc 30, n⟩ (ev Tryz.prog E n) (E.ps 30) n cln_L0)) (L := n) (ClnI S kids tk [.int .i64 k, .str nm, .int .i64 a, .int .i64 lo, .int .i64 hi, .slice (embL kids) (tokOf tk)] n) 0 kids.length (by omega)
      (fun i hi fs h => cln_round n S kids tk _ (by omega) (fun x hx S => ev_aClone m x (by have := sizeL_mem hx; omega) (by omega) n (by omega) S) i hi fs h)
      (fun fs h => by
        obtain ⟨t, b, v, S'⟩ := fs
        obtain ⟨h1, h2, h3, h4, h5, h6, h7, h8, h9⟩ := id h
        simp only at h1 h2 h3 h4 h5 h6 h7 h8 h9
        refine ⟨_, by
          simp (disch := first | (simp only [List.length_append, List.length_cons, List.length_nil]; omega) | (simp; done) | assumption) [AV.cells?, AV.isCell, cln_L0, cutC, bodyOf, Tryz.f30, h7, h8]
          rfl, ?_⟩
        simp only [ClnI, upd] at h ⊢
        simpa using h)
    simp only [ClnI, List.take_length, List.take_zero, clL, embL, accT_nil, accS_nil] at hF hR
    have hfin : finish S (.agg [.int .i64 k, .str nm, .int .i64 a, .int .i64 lo, .int .i64 hi, .slice (embL (clL kids)) (accT S 6 (embL (clL kids)))]) (accS S 6 (embL (clL kids))) = some ((X.mk k nm a lo hi kids.isEmpty (clL kids)).emb, S) := by
      have h1 := acc_sealed S 6 _ (flat_embL (clL kids))
      have h2 := acc_strip S 6 _ (flat_embL (clL kids))
      have h3 : (clL kids).isEmpty = kids.isEmpty := by cases kids <;> rfl
      refine fin_acc ?_ ?_ (flat_emb _)
      · simpa [AV.sealed, AV.sealedL] using h1
      · simp [AV.strip, AV.stripL, h2, X.emb, tokE_embL, h3]
    simp only [cl, X.emb] at hfin ⊢
    rw [ev_enter (n := n) (show E.ok 30 = true from rfl) Tryz.func30 cln_b (Nat.le_of_ble_eq_true rfl) (by decide +kernel)]
    simp (disch := first | (simp [upd]; done) | omega | assumption) [AV.cells?, AV.isCell, cln_p0, cln_p1, cln_p2, cln_p3, cutC, bodyOf, Tryz.f30, hlen, hF, hR, finRet, hfin]
end Go.Proofs.YtcpoinfdnimanaaGreatDoor.PO
/- Are two expressions alike? No condition. -/
namespace Go.Proofs.YtcpoinfdnimanaaGreatDoor.PT
set_option linter.unusedVariables false
set_option linter.unusedSimpArgs false
open Go AE EX
set_option maxRecDepth 100000

mutual
def _root_.Go.Proofs.YtcpoinfdnimanaaGreatDoor.EX.X.same : X → X → Bool
  | .mk k nm n lo hi _ ks, .mk k' nm' n' lo' hi' _ ks' => k == k' && nm == nm' && n == n' && lo == lo' && hi == hi' && ks.length == ks'.length && sameL ks ks'
def sameL : List X → List X → Bool
  | [], [] => true
  | a :: l, b :: m => a.same b && sameL l m
  | _, _ => false
end
theorem sameL_append : ∀ (a a' b b' : List X), a.length = a'.length → sameL (a ++ b) (a' ++ b') = (sameL a a' && sameL b b')
  | [], [], b, b', _ => by simp [sameL]
  | x :: a, y :: a', b, b', h => by
    simp only [List.cons_append, sameL, sameL_append a a' b b' (by simpa using h), Bool.and_assoc]
  | [], _ :: _, _, _, h => by simp at h
  | _ :: _, [], _, _, h => by simp at h

end Go.Proofs.YtcpoinfdnimanaaGreatDoor.PT
/- ast.Same, evaluated (made by gensm.py). No condition. -/
namespace Go.Proofs.YtcpoinfdnimanaaGreatDoor.NF
set_option linter.unusedVariables false
set_option linter.unusedSimpArgs false
open Go AE EX PT
set_option maxRecDepth 100000


noncomputable def efLoop : Code := cutC (bodyOf Tryz.f108) [1, 1, 0, 1, 0, 0]
noncomputable def ef0 : Code := cutC (bodyOf Tryz.f108) [0]
noncomputable def ef1 : Code := cutC (bodyOf Tryz.f108) [1, 0]
noncomputable def ef2 : Code := cutC (bodyOf Tryz.f108) [1, 1, 0, 0]
noncomputable def ef3 : Code := cutC (bodyOf Tryz.f108) [1, 1, 1]
theorem f62b : Tryz.f108.body = some (.seq ef0 (.seq ef1 (.seq (.seq ef2 (.block 0 (.loop efLoop))) ef3))) := rfl

def EFI (ks ks' : List X) (tok tok' : Tok) (S0 : St) (m : Nat) (fs : FS) : Prop :=
  ∃ i, i + m = ks.length ∧ fs.t 1 = .slice (embL ks') tok' ∧ fs.t 2 = .fn 75 [] [] ∧ fs.t 15 = .slice (embL ks) tok ∧ fs.t 16 = .int .i64 ks.length ∧ fs.t 17 = .int .i64 i ∧ fs.S = S0 ∧ sameL (ks.take i) (ks'.take i) = true
def EFQ (ks ks' : List X) (S0 : St) (r : Out × FS) : Prop :=
  r.2.S = S0 ∧ ((r.1 = .exit 0 ∧ sameL ks ks' = true) ∨ (r.1 = .ret ∧ r.2.t 6 = .bool false ∧ sameL ks ks' = false))

theorem ef_round (n : Nat) (ks ks' : List X) (tok tok' : Tok) (S0 : St) (hs : ks.length ≤ 1048576) (hl : ks'.length = ks.length)
    (hrec : ∀ x ∈ ks, ∀ y ∈ ks', ∀ S, ev Tryz.prog E n 75 [x.emb, y.emb] S = some (.ret (.bool (x.same y)), S)) (m : Nat) (fs : FS) (h : EFI ks ks' tok tok' S0 m fs) :
    ∃ o fs', evCode ⟨Tryz.prog, E.esc 108, n⟩ (ev Tryz.prog E n) (E.ps 108) n efLoop fs = some (o, fs') ∧ ((o = .norm ∧ ∃ m', m' < m ∧ EFI ks ks' tok tok' S0 m' fs') ∨ (o ≠ .norm ∧ EFQ ks ks' S0 (o, fs'))) := by
  obtain ⟨t, b, v, S⟩ := fs
  obtain ⟨i, hi, h1, h2, h3, h4, h5, h6, h7⟩ := h
  simp only at h1 h2 h3 h4 h5 h6
  subst h6
  have hlen := embL_length ks
  have hlen' := embL_length ks'
  cases m with
  | zero =>
    have hi : i = ks.length := by omega
    subst hi
    refine ⟨.exit 0, _, by
      simp (disch := first | (simp only [List.length_append, List.length_cons, List.length_nil]; omega) | (simp; done) | assumption) [AV.cells?, AV.isCell, efLoop, cutC, bodyOf, Tryz.f108, h1, h2, h3, h4, h5, bq3]
      rfl, .inr ⟨by simp, rfl, .inl ⟨rfl, by rw [List.take_length, ← hl, List.take_length] at h7; exact h7⟩⟩⟩
  | succ m =>
    have hlt : i < ks.length := by omega
    have hlt' : i < ks'.length := by omega
    have hltz : (i : Int) < ks.length := by omega
    have hxe : ks[i]? = some ks[i] := List.getElem?_eq_getElem hlt
    have hye : ks'[i]? = some ks'[i] := List.getElem?_eq_getElem hlt'
    have hr := hrec ks[i] (List.getElem_mem hlt) ks'[i] (List.getElem_mem hlt') S
    have hemb : (embL ks)[i]? = some ks[i].emb := by rw [embL_map, List.getElem?_map, hxe]; rfl
    have hemb' : (embL ks')[i]? = some ks'[i].emb := by rw [embL_map, List.getElem?_map, hye]; rfl
    have t1 : ks.take (i + 1) = ks.take i ++ [ks[i]] := by rw [List.take_add_one, hxe]; rfl
    have t2 : ks'.take (i + 1) = ks'.take i ++ [ks'[i]] := by rw [List.take_add_one, hye]; rfl
    have hw : IntKind.i64.wrap ((i : Int) + 1) = (i : Int) + 1 := wrap64 _ (by omega)
    have ha1 := cells_all ks[i]
    have hc1 := (cells_ok ks[i]).2
    have ht1 : List.take 6 ks[i].cells = ks[i].cells := List.take_of_length_le (by omega)
    have ha2 := cells_all ks'[i]
    have hc2 := (cells_ok ks'[i]).2
    have ht2 : List.take 6 ks'[i].cells = ks'[i].cells := List.take_of_length_le (by omega)
    have hsame : sameL (ks.take (i + 1)) (ks'.take (i + 1)) = ks[i].same ks'[i] := by
      rw [t1, t2, sameL_append _ _ _ _ (by simp; omega), h7]; simp [sameL]
    have hno : ks[i].same ks'[i] = false → sameL ks ks' = false := fun h => by
      have d1 : ks = ks.take (i + 1) ++ ks.drop (i + 1) := (List.take_append_drop _ _).symm
      have d2 : ks' = ks'.take (i + 1) ++ ks'.drop (i + 1) := (List.take_append_drop _ _).symm
      rw [d1, d2, sameL_append _ _ _ _ (by simp; omega), hsame, h]; rfl
    obtain ⟨z, hz⟩ := ii24
    rw [emb_cells] at hemb hemb'
    rw [emb_cells, emb_cells] at hr
    generalize hq : ks[i].same ks'[i] = q at *
    generalize ks[i].cells = C1 at *
    generalize ks'[i].cells = C2 at *
    cases q
    · refine ⟨.ret, _, by
        simp (disch := first | (simp only [List.length_append, List.length_cons, List.length_nil]; omega) | (simp; done) | assumption) [AV.cells?, AV.isCell, efLoop, cutC, bodyOf, Tryz.f108, E_esc, h1, h2, h3, h4, h5, k24, c24, a24, z24, i24, hz, sq22, bq3, hlen, hlen', hlt, hlt', hltz, hemb, hemb', hr, ha1, hc1, ht1, ha2, hc2, ht2]
        rfl, .inr ⟨by simp, rfl, .inr ⟨rfl, by simp [upd], hno rfl⟩⟩⟩
    · refine ⟨.norm, _, by
        simp (disch := first | (simp only [List.length_append, List.length_cons, List.length_nil]; omega) | (simp; done) | assumption) [AV.cells?, AV.isCell, efLoop, cutC, bodyOf, Tryz.f108, E_esc, h1, h2, h3, h4, h5, k24, c24, a24, z24, i24, hz, sq22, bq3, hlen, hlen', hlt, hlt', hltz, hemb, hemb', hr, ha1, hc1, ht1, ha2, hc2, ht2]
        rfl, .inl ⟨rfl, m, by omega, i + 1, by omega, by simp [upd, h1], by simp [upd, h2], by simp [upd, h3], by simp [upd, h4], by simp [upd, hw], rfl, hsame⟩⟩

theorem sameL_length : ∀ (l m : List X), sameL l m = true → l.length = m.length
  | [], [], _ => rfl
  | x :: l, y :: m, h => by
    simp only [sameL, Bool.and_eq_true] at h
    simp [sameL_length l m h.2]
  | [], _ :: _, h => by cases h
  | _ :: _, [], h => by cases h

theorem ev_EqualFunc (n : Nat) (ks ks' : List X) (tok tok' : Tok) (S : St) (hs : ks.length ≤ 1048576) (hs' : ks'.length ≤ 1048576) (hn : ks.length < n)
    (hrec : ∀ x ∈ ks, ∀ y ∈ ks', ∀ S, ev Tryz.prog E n 75 [x.emb, y.emb] S = some (.ret (.bool (x.same y)), S)) :
    ev Tryz.prog E (n + 1) 108 [.slice (embL ks) tok, .slice (embL ks') tok', .fn 75 [] []] S = some (.ret (.bool (sameL ks ks')), S) := by
  have hlen := embL_length ks
  have hlen' := embL_length ks'
  rw [ev_enter (n := n) (show E.ok 108 = true from rfl) Tryz.func108 f62b (Nat.le_of_ble_eq_true rfl) (by decide +kernel)]
  cases e : ((ks.length : Int) == (ks'.length : Int))
  · have hp : sameL ks ks' = false := by
      rw [Bool.eq_false_iff]; intro h
      have := sameL_length _ _ h
      simp at e; omega
    have e' : ¬ ks.length = ks'.length := by simp at e; omega
    simp (disch := first | (simp only [List.length_append, List.length_cons, List.length_nil]; omega) | (simp; done) | assumption) [AV.cells?, AV.isCell, ef0, ef1, ef2, ef3, cutC, bodyOf, Tryz.f108, sq22, bq3, hlen, hlen', hp, bne, e, e']
  · have e' : ks.length = ks'.length := by simp at e; omega
    obtain ⟨⟨o, t, b, v, S'⟩, hr, hS, hq⟩ := iter_meas (fun m fs h => ef_round n ks ks' tok tok' S hs (by omega) hrec m fs h) ks.length n
      ⟨upd 17 (.int .i64 0) (upd 16 (.int .i64 ks.length) (upd 15 (.slice (embL ks) tok) (upd 14 (.bool false) (upd 13 (.int .i64 ks'.length) (upd 12 (.slice (embL ks') tok') (upd 11 (.int .i64 ks.length) (upd 10 (.slice (embL ks) tok) (upd 6 (.bool false) (argsA [.slice (embL ks) tok, .slice (embL ks') tok', .fn 75 [] []]))))))))), fun _ => (0, []), 9, S⟩ hn
      ⟨0, by omega, by simp [upd, argsA], by simp [upd, argsA], by simp [upd], by simp [upd], by simp [upd], rfl, by simp [sameL]⟩
    simp only at hS hq
    subst hS
    rcases hq with ⟨rfl, ha⟩ | ⟨rfl, h2, ha⟩
    · simp (disch := first | (simp only [List.length_append, List.length_cons, List.length_nil]; omega) | (simp; done) | assumption) [AV.cells?, AV.isCell, ef0, ef1, ef2, ef3, cutC, bodyOf, Tryz.f108, sq22, bq3, hlen, hlen', bne, e, hr, ha]
    · simp (disch := first | (simp only [List.length_append, List.length_cons, List.length_nil]; omega) | (simp; done) | assumption) [AV.cells?, AV.isCell, ef0, ef1, ef2, ef3, cutC, bodyOf, Tryz.f108, sq22, bq3, hlen, hlen', bne, e, hr, ha, h2]

theorem same_len (k k' n n' lo lo' hi hi' : Int) (nm nm' : List UInt8) (tk tk' : Bool) (ks ks' : List X) :
    (X.mk k nm n lo hi tk ks).same (.mk k' nm' n' lo' hi' tk' ks') = (k == k' && nm == nm' && n == n' && lo == lo' && hi == hi' && sameL ks ks') := by
  simp only [X.same, Bool.and_assoc]
  congr 5
  cases h : sameL ks ks'
  · simp
  · simp [sameL_length _ _ h]

set_option maxHeartbeats 4000000 in
theorem ev_aSame : ∀ (m : Nat) (x y : X), x.size ≤ m → y.size ≤ 1048576 → m ≤ 1048576 → ∀ n, 2 * m + 2 ≤ n → ∀ S, ev Tryz.prog E n 75 [x.emb, y.emb] S = some (.ret (.bool (x.same y)), S)
  | 0, x, y, hm, _, _, _, _, _ => absurd hm (by have := size_pos x; omega)
  | m + 1, x, y, hm, hy, hmm, n, hn, S => by
    obtain ⟨n, rfl⟩ : ∃ k, n = k + 2 := ⟨n - 2, by omega⟩
    obtain ⟨k, nm, a, lo, hi, tk, ks⟩ := x
    obtain ⟨k', nm', a', lo', hi', tk', ks'⟩ := y
    simp only [X.size] at hm hy
    have hl := sizeL_length ks
    have hl' := sizeL_length ks'
    have hE := ev_EqualFunc n ks ks' (tokOf tk) (tokOf tk') S (by omega) (by omega) (by omega) (fun x hx y hy S => ev_aSame m x y (by have := sizeL_mem hx; omega) (by have := sizeL_mem hy; omega) (by omega) n (by omega) S)
    rw [same_len]
    simp only [X.emb]
    generalize sameL ks ks' = q at *
    generalize embL ks = e1 at *
    generalize embL ks' = e2 at *
    rw [ev_enter (n := n + 1) (show E.ok 75 = true from rfl) Tryz.func75 (fn := Tryz.f75) rfl (Nat.le_of_ble_eq_true rfl) (by decide +kernel)]
    cases g1 : (k == k')
    · simp (disch := first | (simp only [List.length_append, List.length_cons, List.length_nil]; omega) | (simp; done) | assumption) [AV.cells?, AV.isCell, Tryz.f75, E_esc, k24, c24, a24, k3, c3, a3, k2, c2, a2, k9, c9, a9, k22, c22, a22, fq0, fq1, fq2, fq3, fq4, fq5, bq3, bq2, bq9, g1]
    cases g2 : (nm == nm')
    · simp (disch := first | (simp only [List.length_append, List.length_cons, List.length_nil]; omega) | (simp; done) | assumption) [AV.cells?, AV.isCell, Tryz.f75, E_esc, k24, c24, a24, k3, c3, a3, k2, c2, a2, k9, c9, a9, k22, c22, a22, fq0, fq1, fq2, fq3, fq4, fq5, bq3, bq2, bq9, g1, g2]
    cases g3 : (a == a')
    · simp (disch := first | (simp only [List.length_append, List.length_cons, List.length_nil]; omega) | (simp; done) | assumption) [AV.cells?, AV.isCell, Tryz.f75, E_esc, k24, c24, a24, k3, c3, a3, k2, c2, a2, k9, c9, a9, k22, c22, a22, fq0, fq1, fq2, fq3, fq4, fq5, bq3, bq2, bq9, g1, g2, g3]
    cases g4 : (lo == lo')
    · simp (disch := first | (simp only [List.length_append, List.length_cons, List.length_nil]; omega) | (simp; done) | assumption) [AV.cells?, AV.isCell, Tryz.f75, E_esc, k24, c24, a24, k3, c3, a3, k2, c2, a2, k9, c9, a9, k22, c22, a22, fq0, fq1, fq2, fq3, fq4, fq5, bq3, bq2, bq9, g1, g2, g3, g4]
    cases g5 : (hi == hi')
    · simp (disch := first | (simp only [List.length_append, List.length_cons, List.length_nil]; omega) | (simp; done) | assumption) [AV.cells?, AV.isCell, Tryz.f75, E_esc, k24, c24, a24, k3, c3, a3, k2, c2, a2, k9, c9, a9, k22, c22, a22, fq0, fq1, fq2, fq3, fq4, fq5, bq3, bq2, bq9, g1, g2, g3, g4, g5]
    cases q <;> simp (disch := first | (simp only [List.length_append, List.length_cons, List.length_nil]; omega) | (simp; done) | assumption) [AV.cells?, AV.isCell, Tryz.f75, E_esc, k24, c24, a24, k3, c3, a3, k2, c2, a2, k9, c9, a9, k22, c22, a22, fq0, fq1, fq2, fq3, fq4, fq5, bq3, bq2, bq9, g1, g2, g3, g4, g5, hE]
end Go.Proofs.YtcpoinfdnimanaaGreatDoor.NF
/- The data of a policy; are lists alike (policy, slices), evaluated. No condition. -/
namespace Go.Proofs.YtcpoinfdnimanaaGreatDoor.PO
set_option linter.unusedVariables false
set_option linter.unusedSimpArgs false
open Go AE EX PT NF
set_option maxRecDepth 100000

/-! ### data -/
structure Dc where
  nm : List UInt8
  k : Int
def Dc.emb (d : Dc) : AV := .agg [.str d.nm, .int .i64 d.k]
def Dc.eqv (a b : Dc) : Bool := a.nm == b.nm && a.k == b.k
structure Up where
  side : Int
  nm : List UInt8
  to : X
def Up.emb (u : Up) : AV := .agg (.int .i64 u.side :: .str u.nm :: u.to.cells)
def Up.eqv (a b : Up) : Bool := a.side == b.side && a.nm == b.nm && a.to.same b.to
structure Du where
  nm : List UInt8
  on : List UInt8
  act : List UInt8
  within : Int
  keep : Bool
def Du.emb (d : Du) : AV := .agg [.str d.nm, .str d.on, .str d.act, .int .i64 d.within, .bool d.keep]
def Du.eqv (a b : Du) : Bool := a.nm == b.nm && a.on == b.on && a.act == b.act && a.within == b.within && a.keep == b.keep
/-- are lists alike, by their elements? -/
def eqvL {α : Type} (f : α → α → Bool) : List α → List α → Bool
  | [], [] => true
  | a :: l, b :: m => f a b && eqvL f l m
  | _, _ => false
theorem eqvL_len {α : Type} {f : α → α → Bool} : ∀ {l m : List α}, eqvL f l m = true → l.length = m.length
  | [], [], _ => rfl
  | a :: l, b :: m, h => by simp only [eqvL, Bool.and_eq_true] at h; simp [eqvL_len h.2]
  | [], _ :: _, h => by cases h
  | _ :: _, [], h => by cases h
theorem eqvL_all {α : Type} {f : α → α → Bool} : ∀ {l m : List α} (hl : l.length = m.length), (∀ (i : Nat) (hi : i < l.length), f l[i] m[i] = true) → eqvL f l m = true
  | [], [], _, _ => rfl
  | a :: l, b :: m, hl, h => by
    have h0 := h 0 (by simp)
    simp only [List.getElem_cons_zero] at h0
    simp only [eqvL, h0, Bool.true_and]
    exact eqvL_all (by simpa using hl) fun i hi => by have := h (i + 1) (by simpa using hi); simpa using this
  | [], _ :: _, hl, _ => by simp at hl
  | _ :: _, [], hl, _ => by simp at hl
theorem eqvL_none {α : Type} {f : α → α → Bool} : ∀ {l m : List α} (hl : l.length = m.length), eqvL f l m = false → ∃ (j : Nat) (hj : j < l.length), (∀ (i : Nat) (hi : i < j), f l[i] m[i] = true) ∧ f l[j] m[j] = false
  | [], [], _, h => by cases h
  | a :: l, b :: m, hl, h => by
    cases h0 : f a b
    · exact ⟨0, by simp, fun i hi => by omega, h0⟩
    · simp only [eqvL, h0, Bool.true_and] at h
      obtain ⟨j, hj, h1, h2⟩ := eqvL_none (by simpa using hl) h
      refine ⟨j + 1, by simpa using hj, fun i hi => ?_, by simpa using h2⟩
      cases i with
      | zero => exact h0
      | succ i => simpa using h1 i (by omega)
  | [], _ :: _, hl, _ => by simp at hl
  | _ :: _, [], hl, _ => by simp at hl

def dcL (l : List Dc) : List AV := l.map Dc.emb
def upL (l : List Up) : List AV := l.map Up.emb
def duL (l : List Du) : List AV := l.map Du.emb
theorem dcL_len (l : List Dc) : (dcL l).length = l.length := List.length_map _
theorem upL_len (l : List Up) : (upL l).length = l.length := List.length_map _
theorem duL_len (l : List Du) : (duL l).length = l.length := List.length_map _
theorem dcL_get (l : List Dc) {i : Nat} (h : i < l.length) : (dcL l)[i]? = some l[i].emb := by simp [dcL, h]
theorem upL_get (l : List Up) {i : Nat} (h : i < l.length) : (upL l)[i]? = some l[i].emb := by simp [upL, h]
theorem duL_get (l : List Du) {i : Nat} (h : i < l.length) : (duL l)[i]? = some l[i].emb := by simp [duL, h]

theorem ev_pSame (n : Nat) (a b : Up) (ha : a.to.size ≤ 1048576) (hb : b.to.size ≤ 1048576) (hn : 2 * a.to.size + 2 ≤ n) (S : St) : ev Tryz.prog E (n + 1) 74 [a.emb, b.emb] S = some (.ret (.bool (a.eqv b)), S) := by
  have h := ev_aSame _ a.to b.to (Nat.le_refl _) hb ha n hn S
  obtain ⟨sa, na, ⟨k, nm, x, lo, hi, tk, ks⟩⟩ := a
  obtain ⟨sb, nb, ⟨k', nm', x', lo', hi', tk', ks'⟩⟩ := b
  simp only [X.emb] at h
  simp only [Up.emb, Up.eqv, X.cells]
  generalize X.same _ _ = q at *
  rw [ev_enter (n := n) (show E.ok 74 = true from rfl) Tryz.func74 (fn := Tryz.f74) rfl (Nat.le_of_ble_eq_true rfl) (by decide +kernel)]
  cases h1 : (sa == sb)
  · simp (disch := first | (simp only [List.length_append, List.length_cons, List.length_nil]; omega) | (simp; done) | assumption) [AV.cells?, AV.isCell, Tryz.f74, h1]
  cases h2 : (na == nb)
  · simp (disch := first | (simp only [List.length_append, List.length_cons, List.length_nil]; omega) | (simp; done) | assumption) [AV.cells?, AV.isCell, Tryz.f74, h1, h2]
  simp (disch := first | (simp only [List.length_append, List.length_cons, List.length_nil]; omega) | (simp; done) | assumption) [AV.cells?, AV.isCell, Tryz.f74, h1, h2, h]

/-! ### slices.EqualFunc at updates -/
noncomputable def efu_p0 : Code := cutC (bodyOf Tryz.f73) [0]
noncomputable def efu_p1 : Code := cutC (bodyOf Tryz.f73) [1, 0]
noncomputable def efu_p2 : Code := cutC (bodyOf Tryz.f73) [1, 1, 0, 0]
noncomputable def efu_L0 : Code := cutC (bodyOf Tryz.f73) [1, 1, 0, 1, 0, 0]
noncomputable def efu_p3 : Code := cutC (bodyOf Tryz.f73) [1, 1, 1]
theorem efu_b : Tryz.f73.body = some (.seq efu_p0 (.seq efu_p1 (.seq (.seq efu_p2 (.block 0 (.loop efu_L0))) efu_p3))) := rfl
/-- ahead of a round -/
def efu_I0 (n : Nat) (a b : List Up) (ta tb : Tok) (S0 : St) (f : FuncId) (i : Nat) (fs : FS) : Prop :=
  fs.t 1 = .slice (upL b) tb ∧ fs.t 2 = .fn f [] [] ∧ fs.t 15 = .slice (upL a) ta ∧ fs.t 16 = .int .i64 a.length ∧ fs.t 17 = .int .i64 (i : Nat) ∧ fs.S = S0
theorem efu_go0 (n : Nat) (a b : List Up) (ta tb : Tok) (S0 : St) (f : FuncId) (hs : a.length ≤ 1048576) (hl : a.length = b.length) (hrec : ∀ (i : Nat) (hi : i < a.length), ev Tryz.prog E n f [a[i].emb, b[i].emb] S0 = some (.ret (.bool (a[i].eqv b[i])), S0)) (i : Nat) (hi : i < a.length) (q : (a[i].eqv b[i]) = true) (fs : FS) (h : efu_I0 n a b ta tb S0 f i fs) :
    ∃ fs', (evCode ⟨Tryz.prog, E.esc 73, n⟩ (ev Tryz.prog E n) (E.ps 73) n efu_L0) fs = some (.norm, fs') ∧ efu_I0 n a b ta tb S0 f (i + 1) fs' := by
  obtain ⟨tF, bF, cF, SF⟩ := fs
  obtain ⟨h1, h2, h3, h4, h5, h6⟩ := id h
  simp only at h1 h2 h3 h4 h5 h6
  subst h6
  have hiz : (i : Int) < (a.length : Nat) := by omega
  have hw : IntKind.i64.wrap ((i : Int) + 1) = (i : Int) + 1 := wrap64 _ (by omega)
  have hr := hrec i hi
  rw [q] at hr
  have hb : i < b.length := by omega
  have hxa := upL_get a hi
  have hxb := upL_get b hb
  generalize a[i] = x at *
  generalize b[i] = y at *
  obtain ⟨sa, na, ⟨k, nm, x, lo, hi2, tk, ks⟩⟩ := x
  obtain ⟨sb, nb, ⟨k', nm', x', lo', hi2', tk', ks'⟩⟩ := y
  simp only [Up.emb, X.cells] at hxa hxb hr
  all_goals (
  refine ⟨_, by
    simp (disch := first | (simp only [List.length_append, List.length_cons, List.length_nil]; omega) | (simp [h1, h2, h3, h4, h5]; done) | assumption) [AV.cells?, AV.isCell, efu_L0, cutC, bodyOf, Tryz.f73, h1, h2, h3, h4, h5, hi, hiz, q, hr, hxa, hxb, upL_len, hb]
    rfl, ?_⟩
  simp [efu_I0, upd, h1, h2, h3, h4, h5, hw])
theorem efu_stop0 (n : Nat) (a b : List Up) (ta tb : Tok) (S0 : St) (f : FuncId) (hs : a.length ≤ 1048576) (hl : a.length = b.length) (hrec : ∀ (i : Nat) (hi : i < a.length), ev Tryz.prog E n f [a[i].emb, b[i].emb] S0 = some (.ret (.bool (a[i].eqv b[i])), S0)) (i : Nat) (hi : i < a.length) (q : (a[i].eqv b[i]) = false) (fs : FS) (h : efu_I0 n a b ta tb S0 f i fs) :
    ∃ fs', (evCode ⟨Tryz.prog, E.esc 73, n⟩ (ev Tryz.prog E n) (E.ps 73) n efu_L0) fs = some (.ret, fs') ∧ (fs'.t 6 = .bool false ∧ fs'.S = S0) := by
  obtain ⟨tF, bF, cF, SF⟩ := fs
  obtain ⟨h1, h2, h3, h4, h5, h6⟩ := id h
  simp only at h1 h2 h3 h4 h5 h6
  subst h6
  have hiz : (i : Int) < (a.length : Nat) := by omega
  have hw : IntKind.i64.wrap ((i : Int) + 1) = (i : Int) + 1 := wrap64 _ (by omega)
  have hr := hrec i hi
  rw [q] at hr
  have hb : i < b.length := by omega
  have hxa := upL_get a hi
  have hxb := upL_get b hb
  generalize a[i] = x at *
  generalize b[i] = y at *
  obtain ⟨sa, na, ⟨k, nm, x, lo, hi2, tk, ks⟩⟩ := x
  obtain ⟨sb, nb, ⟨k', nm', x', lo', hi2', tk', ks'⟩⟩ := y
  simp only [Up.emb, X.cells] at hxa hxb hr
  all_goals (
  refine ⟨_, by
    simp (disch := first | (simp only [List.length_append, List.length_cons, List.length_nil]; omega) | (simp [h1, h2, h3, h4, h5]; done) | assumption) [AV.cells?, AV.isCell, efu_L0, cutC, bodyOf, Tryz.f73, h1, h2, h3, h4, h5, hi, hiz, q, hr, hxa, hxb, upL_len, hb]
    rfl, ?_⟩
  simp [upd, h1, h2, h3, h4, h5, hw])
theorem efu_end0 (n : Nat) (a b : List Up) (ta tb : Tok) (S0 : St) (f : FuncId) (hs : a.length ≤ 1048576) (hl : a.length = b.length) (hrec : ∀ (i : Nat) (hi : i < a.length), ev Tryz.prog E n f [a[i].emb, b[i].emb] S0 = some (.ret (.bool (a[i].eqv b[i])), S0)) (fs : FS) (h : efu_I0 n a b ta tb S0 f (a.length) fs) : ∃ fs', (evCode ⟨Tryz.prog, E.esc 73, n⟩ (ev Tryz.prog E n) (E.ps 73) n efu_L0) fs = some (.exit 0, fs') ∧ efu_I0 n a b ta tb S0 f (a.length) fs' := by
  obtain ⟨tF, bF, cF, SF⟩ := fs
  obtain ⟨h1, h2, h3, h4, h5, h6⟩ := id h
  simp only at h1 h2 h3 h4 h5 h6
  subst h6
  refine ⟨_, by
    simp (disch := first | (simp only [List.length_append, List.length_cons, List.length_nil]; omega) | (simp; done) | assumption) [AV.cells?, AV.isCell, efu_L0, cutC, bodyOf, Tryz.f73, h1, h2, h3, h4, h5, upL_len]
    rfl, ?_⟩
  simp only [efu_I0, upd] at h ⊢
  simpa using h
theorem efu_all0 (n : Nat) (a b : List Up) (ta tb : Tok) (S0 : St) (f : FuncId) (hs : a.length ≤ 1048576) (hl : a.length = b.length) (hrec : ∀ (i : Nat) (hi : i < a.length), ev Tryz.prog E n f [a[i].emb, b[i].emb] S0 = some (.ret (.bool (a[i].eqv b[i])), S0)) (hn : a.length < n) (hq : ∀ (i : Nat) (hi : i < a.length), (a[i].eqv b[i]) = true) : ∃ F : FS → FS, (∀ fs, efu_I0 n a b ta tb S0 f 0 fs → iter n (evCode ⟨Tryz.prog, E.esc 73, n⟩ (ev Tryz.prog E n) (E.ps 73) n efu_L0) fs = some (.exit 0, F fs)) ∧ ∀ fs, efu_I0 n a b ta tb S0 f 0 fs → efu_I0 n a b ta tb S0 f (a.length) (F fs) :=
  for_all (efu_I0 n a b ta tb S0 f) 0 (a.length) hn (fun i hi fs h => efu_go0 n a b ta tb S0 f hs hl hrec i hi (hq i hi) fs h) (fun fs h => efu_end0 n a b ta tb S0 f hs hl hrec fs h)
theorem efu_some0 (n : Nat) (a b : List Up) (ta tb : Tok) (S0 : St) (f : FuncId) (hs : a.length ≤ 1048576) (hl : a.length = b.length) (hrec : ∀ (i : Nat) (hi : i < a.length), ev Tryz.prog E n f [a[i].emb, b[i].emb] S0 = some (.ret (.bool (a[i].eqv b[i])), S0)) (j : Nat) (hj : j < a.length) (hn : j < n) (hq : ∀ (i : Nat) (hi : i < j), (a[i].eqv b[i]) = true) (q : (a[j].eqv b[j]) = false) : ∃ F : FS → FS, (∀ fs, efu_I0 n a b ta tb S0 f 0 fs → iter n (evCode ⟨Tryz.prog, E.esc 73, n⟩ (ev Tryz.prog E n) (E.ps 73) n efu_L0) fs = some (.ret, F fs)) ∧ ∀ fs, efu_I0 n a b ta tb S0 f 0 fs → ((F fs).t 6 = .bool false ∧ (F fs).S = S0) :=
  for_stop (efu_I0 n a b ta tb S0 f) (.ret) (fun fs => fs.t 6 = .bool false ∧ fs.S = S0) j hn (by simp) (fun i hi fs h => efu_go0 n a b ta tb S0 f hs hl hrec i (by omega) (hq i hi) fs h) (fun fs h => efu_stop0 n a b ta tb S0 f hs hl hrec j hj q fs h)
theorem eqvL_get {α : Type} {f : α → α → Bool} : ∀ {l m : List α} (hl : l.length = m.length), eqvL f l m = true → ∀ (i : Nat) (hi : i < l.length), f l[i] m[i] = true
  | [], [], _, _, i, hi => by simp at hi
  | a :: l, b :: m, hl, h, i, hi => by
    simp only [eqvL, Bool.and_eq_true] at h
    cases i with
    | zero => exact h.1
    | succ i => simpa using eqvL_get (by simpa using hl) h.2 i (by simpa using hi)
  | [], _ :: _, hl, _, _, _ => by simp at hl
  | _ :: _, [], hl, _, _, _ => by simp at hl
theorem eqvL_ne {α : Type} {f : α → α → Bool} {l m : List α} (h : ¬ l.length = m.length) : eqvL f l m = false := by
  cases q : eqvL f l m
  · rfl
  · exact absurd (eqvL_len q) h
theorem ev_efu (n : Nat) (a b : List Up) (ta tb : Tok) (S : St) (f : FuncId) (hs : a.length ≤ 1048576) (hs' : b.length ≤ 1048576) (hn : a.length < n) (hrec : ∀ x ∈ a, ∀ y ∈ b, ev Tryz.prog E n f [x.emb, y.emb] S = some (.ret (.bool (x.eqv y)), S)) :
    ev Tryz.prog E (n + 1) 73 [.slice (upL a) ta, .slice (upL b) tb, .fn f [] []] S = some (.ret (.bool (eqvL Up.eqv a b)), S) := by
  rw [ev_enter (n := n) (show E.ok 73 = true from rfl) Tryz.func73 efu_b (Nat.le_of_ble_eq_true rfl) (by decide +kernel)]
  by_cases hl : a.length = b.length
  · have hl' : ((a.length : Int) != (b.length : Int)) = false := by simp; omega
    have hrec' := fun (i : Nat) (hi : i < a.length) => hrec a[i] (List.getElem_mem hi) b[i] (List.getElem_mem (by omega))
    cases q : eqvL Up.eqv a b
    · obtain ⟨j, hj, q1, q2⟩ := eqvL_none hl q
      obtain ⟨F, hF, hR⟩ := efu_some0 n a b ta tb S f hs hl hrec' j hj (by omega) q1 q2
      simp only [efu_I0] at hF hR
      simp (disch := first | (simp [upd]; done) | omega | assumption) [AV.cells?, AV.isCell, efu_p0, efu_p1, efu_p2, efu_p3, cutC, bodyOf, Tryz.f73, upL_len, hl', hF, hR]
    · obtain ⟨F, hF, hR⟩ := efu_all0 n a b ta tb S f hs hl hrec' hn (eqvL_get hl q)
      simp only [efu_I0] at hF hR
      simp (disch := first | (simp [upd]; done) | omega | assumption) [AV.cells?, AV.isCell, efu_p0, efu_p1, efu_p2, efu_p3, cutC, bodyOf, Tryz.f73, upL_len, hl', hF, hR]
  · have hl' : ((a.length : Int) != (b.length : Int)) = true := by simp; omega
    rw [eqvL_ne hl]
    simp (disch := first | (simp [upd]; done) | omega | assumption) [AV.cells?, AV.isCell, efu_p0, efu_p1, efu_p2, efu_p3, cutC, bodyOf, Tryz.f73, upL_len, hl']
end Go.Proofs.YtcpoinfdnimanaaGreatDoor.PO
/- Are policies alike (policy.Same), evaluated. No condition. -/
namespace Go.Proofs.YtcpoinfdnimanaaGreatDoor.PO
set_option linter.unusedVariables false
set_option linter.unusedSimpArgs false
open Go AE EX PT NF
set_option maxRecDepth 100000

theorem eq_dc (a b : Dc) : eqAgg Tryz.prog 66 [.str a.nm, .int .i64 a.k] [.str b.nm, .int .i64 b.k] = some (a.eqv b) := by
  have : eqAgg Tryz.prog 66 [.str a.nm, .int .i64 a.k] [.str b.nm, .int .i64 b.k] = some (a.nm == b.nm && (a.k == b.k && true)) := by kernel_rfl
  rw [this, Bool.and_true]; rfl
theorem eq_du (a b : Du) : eqAgg Tryz.prog 60 [.str a.nm, .str a.on, .str a.act, .int .i64 a.within, .bool a.keep] [.str b.nm, .str b.on, .str b.act, .int .i64 b.within, .bool b.keep] = some (a.eqv b) := by
  have : eqAgg Tryz.prog 60 [.str a.nm, .str a.on, .str a.act, .int .i64 a.within, .bool a.keep] [.str b.nm, .str b.on, .str b.act, .int .i64 b.within, .bool b.keep] = some (a.nm == b.nm && (a.on == b.on && (a.act == b.act && (a.within == b.within && (a.keep == b.keep && true))))) := by kernel_rfl
  rw [this, Bool.and_true]; simp [Du.eqv, Bool.and_assoc]
theorem or3 (a b c : Bool) : a = false ∨ (a = true ∧ b = false) ∨ (a = true ∧ b = true ∧ c = false) ∨ (a = true ∧ b = true ∧ c = true) := by cases a <;> cases b <;> cases c <;> simp
theorem evB2_agg {P : Program} {t : TypeId} {kc : Bool} {xs ys : List AV} {q : Bool} (h : eqAgg P t xs ys = some q) : evB2 P t kc .eql (.agg xs) (.agg ys) = some (.bool q) ∧ evB2 P t kc .neq (.agg xs) (.agg ys) = some (.bool (!q)) := by
  simp [evB2, h, cmpN]

noncomputable def eqd_p0 : Code := cutC (bodyOf Tryz.f36) [0]
noncomputable def eqd_p1 : Code := cutC (bodyOf Tryz.f36) [1, 0]
noncomputable def eqd_p2 : Code := cutC (bodyOf Tryz.f36) [1, 1, 0, 0]
noncomputable def eqd_L0 : Code := cutC (bodyOf Tryz.f36) [1, 1, 0, 1, 0, 0]
noncomputable def eqd_p3 : Code := cutC (bodyOf Tryz.f36) [1, 1, 1]
theorem eqd_b : Tryz.f36.body = some (.seq eqd_p0 (.seq eqd_p1 (.seq (.seq eqd_p2 (.block 0 (.loop eqd_L0))) eqd_p3))) := rfl
/-- ahead of a round -/
def eqd_I0 (n : Nat) (a b : List Dc) (ta tb : Tok) (S0 : St) (i : Nat) (fs : FS) : Prop :=
  fs.t 0 = .slice (dcL a) ta ∧ fs.t 1 = .slice (dcL b) tb ∧ fs.t 12 = .int .i64 a.length ∧ fs.t 13 = .int .i64 (i : Nat) ∧ fs.S = S0
theorem eqd_go0 (n : Nat) (a b : List Dc) (ta tb : Tok) (S0 : St) (hs : a.length ≤ 1048576) (hl : a.length = b.length) (i : Nat) (hi : i < a.length) (q : (a[i].eqv b[i]) = true) (fs : FS) (h : eqd_I0 n a b ta tb S0 i fs) :
    ∃ fs', (evCode ⟨Tryz.prog, E.esc 36, n⟩ (ev Tryz.prog E n) (E.ps 36) n eqd_L0) fs = some (.norm, fs') ∧ eqd_I0 n a b ta tb S0 (i + 1) fs' := by
  obtain ⟨tF, bF, cF, SF⟩ := fs
  obtain ⟨h1, h2, h3, h4, h5⟩ := id h
  simp only at h1 h2 h3 h4 h5
  subst h5
  have hiz : (i : Int) < (a.length : Nat) := by omega
  have hw : IntKind.i64.wrap ((i : Int) + 1) = (i : Int) + 1 := wrap64 _ (by omega)
  have hb : i < b.length := by omega
  have hxa := dcL_get a hi
  have hxb := dcL_get b hb
  obtain ⟨e1, e2⟩ := evB2_agg (kc := false) (eq_dc a[i] b[i])
  rw [q] at e1 e2
  generalize a[i] = x at *
  generalize b[i] = y at *
  simp only [Dc.emb] at hxa hxb
  all_goals (
  refine ⟨_, by
    simp (disch := first | (simp only [List.length_append, List.length_cons, List.length_nil]; omega) | (simp [h1, h2, h3, h4]; done) | assumption) [AV.cells?, AV.isCell, eqd_L0, cutC, bodyOf, Tryz.f36, h1, h2, h3, h4, hi, hiz, q, hxa, hxb, dcL_len, hb, e1, e2]
    rfl, ?_⟩
  simp [eqd_I0, upd, h1, h2, h3, h4, hw])
theorem eqd_stop0 (n : Nat) (a b : List Dc) (ta tb : Tok) (S0 : St) (hs : a.length ≤ 1048576) (hl : a.length = b.length) (i : Nat) (hi : i < a.length) (q : (a[i].eqv b[i]) = false) (fs : FS) (h : eqd_I0 n a b ta tb S0 i fs) :
    ∃ fs', (evCode ⟨Tryz.prog, E.esc 36, n⟩ (ev Tryz.prog E n) (E.ps 36) n eqd_L0) fs = some (.ret, fs') ∧ (fs'.t 4 = .bool false ∧ fs'.S = S0) := by
  obtain ⟨tF, bF, cF, SF⟩ := fs
  obtain ⟨h1, h2, h3, h4, h5⟩ := id h
  simp only at h1 h2 h3 h4 h5
  subst h5
  have hiz : (i : Int) < (a.length : Nat) := by omega
  have hw : IntKind.i64.wrap ((i : Int) + 1) = (i : Int) + 1 := wrap64 _ (by omega)
  have hb : i < b.length := by omega
  have hxa := dcL_get a hi
  have hxb := dcL_get b hb
  obtain ⟨e1, e2⟩ := evB2_agg (kc := false) (eq_dc a[i] b[i])
  rw [q] at e1 e2
  generalize a[i] = x at *
  generalize b[i] = y at *
  simp only [Dc.emb] at hxa hxb
  all_goals (
  refine ⟨_, by
    simp (disch := first | (simp only [List.length_append, List.length_cons, List.length_nil]; omega) | (simp [h1, h2, h3, h4]; done) | assumption) [AV.cells?, AV.isCell, eqd_L0, cutC, bodyOf, Tryz.f36, h1, h2, h3, h4, hi, hiz, q, hxa, hxb, dcL_len, hb, e1, e2]
    rfl, ?_⟩
  simp [upd, h1, h2, h3, h4, hw])
theorem eqd_end0 (n : Nat) (a b : List Dc) (ta tb : Tok) (S0 : St) (hs : a.length ≤ 1048576) (hl : a.length = b.length) (fs : FS) (h : eqd_I0 n a b ta tb S0 (a.length) fs) : ∃ fs', (evCode ⟨Tryz.prog, E.esc 36, n⟩ (ev Tryz.prog E n) (E.ps 36) n eqd_L0) fs = some (.exit 0, fs') ∧ eqd_I0 n a b ta tb S0 (a.length) fs' := by
  obtain ⟨tF, bF, cF, SF⟩ := fs
  obtain ⟨h1, h2, h3, h4, h5⟩ := id h
  simp only at h1 h2 h3 h4 h5
  subst h5
  refine ⟨_, by
    simp (disch := first | (simp only [List.length_append, List.length_cons, List.length_nil]; omega) | (simp; done) | assumption) [AV.cells?, AV.isCell, eqd_L0, cutC, bodyOf, Tryz.f36, h1, h2, h3, h4, dcL_len]
    rfl, ?_⟩
  simp only [eqd_I0, upd] at h ⊢
  simpa using h
theorem eqd_all0 (n : Nat) (a b : List Dc) (ta tb : Tok) (S0 : St) (hs : a.length ≤ 1048576) (hl : a.length = b.length) (hn : a.length < n) (hq : ∀ (i : Nat) (hi : i < a.length), (a[i].eqv b[i]) = true) : ∃ F : FS → FS, (∀ fs, eqd_I0 n a b ta tb S0 0 fs → iter n (evCode ⟨Tryz.prog, E.esc 36, n⟩ (ev Tryz.prog E n) (E.ps 36) n eqd_L0) fs = some (.exit 0, F fs)) ∧ ∀ fs, eqd_I0 n a b ta tb S0 0 fs → eqd_I0 n a b ta tb S0 (a.length) (F fs) :=
  for_all (eqd_I0 n a b ta tb S0) 0 (a.length) hn (fun i hi fs h => eqd_go0 n a b ta tb S0 hs hl i hi (hq i hi) fs h) (fun fs h => eqd_end0 n a b ta tb S0 hs hl fs h)
theorem eqd_some0 (n : Nat) (a b : List Dc) (ta tb : Tok) (S0 : St) (hs : a.length ≤ 1048576) (hl : a.length = b.length) (j : Nat) (hj : j < a.length) (hn : j < n) (hq : ∀ (i : Nat) (hi : i < j), (a[i].eqv b[i]) = true) (q : (a[j].eqv b[j]) = false) : ∃ F : FS → FS, (∀ fs, eqd_I0 n a b ta tb S0 0 fs → iter n (evCode ⟨Tryz.prog, E.esc 36, n⟩ (ev Tryz.prog E n) (E.ps 36) n eqd_L0) fs = some (.ret, F fs)) ∧ ∀ fs, eqd_I0 n a b ta tb S0 0 fs → ((F fs).t 4 = .bool false ∧ (F fs).S = S0) :=
  for_stop (eqd_I0 n a b ta tb S0) (.ret) (fun fs => fs.t 4 = .bool false ∧ fs.S = S0) j hn (by simp) (fun i hi fs h => eqd_go0 n a b ta tb S0 hs hl i (by omega) (hq i hi) fs h) (fun fs h => eqd_stop0 n a b ta tb S0 hs hl j hj q fs h)
theorem ev_eqd (n : Nat) (a b : List Dc) (ta tb : Tok) (S : St) (hs : a.length ≤ 1048576) (hs' : b.length ≤ 1048576) (hn : a.length < n) : ev Tryz.prog E (n + 1) 36 [.slice (dcL a) ta, .slice (dcL b) tb] S = some (.ret (.bool (eqvL Dc.eqv a b)), S) := by
  rw [ev_enter (n := n) (show E.ok 36 = true from rfl) Tryz.func36 eqd_b (Nat.le_of_ble_eq_true rfl) (by decide +kernel)]
  by_cases hl : a.length = b.length
  · have hl' : ((a.length : Int) != (b.length : Int)) = false := by simp; omega
    cases q : eqvL Dc.eqv a b
    · obtain ⟨j, hj, q1, q2⟩ := eqvL_none hl q
      obtain ⟨F, hF, hR⟩ := eqd_some0 n a b ta tb S hs hl j hj (by omega) q1 q2
      simp only [eqd_I0] at hF hR
      simp (disch := first | (simp [upd]; done) | omega | assumption) [AV.cells?, AV.isCell, eqd_p0, eqd_p1, eqd_p2, eqd_p3, cutC, bodyOf, Tryz.f36, dcL_len, hl', hF, hR]
    · obtain ⟨F, hF, hR⟩ := eqd_all0 n a b ta tb S hs hl hn (eqvL_get hl q)
      simp only [eqd_I0] at hF hR
      simp (disch := first | (simp [upd]; done) | omega | assumption) [AV.cells?, AV.isCell, eqd_p0, eqd_p1, eqd_p2, eqd_p3, cutC, bodyOf, Tryz.f36, dcL_len, hl', hF, hR]
  · have hl' : ((a.length : Int) != (b.length : Int)) = true := by simp; omega
    rw [eqvL_ne hl]
    simp (disch := first | (simp [upd]; done) | omega | assumption) [AV.cells?, AV.isCell, eqd_p0, eqd_p1, eqd_p2, eqd_p3, cutC, bodyOf, Tryz.f36, dcL_len, hl']

noncomputable def equ_p0 : Code := cutC (bodyOf Tryz.f76) [0]
noncomputable def equ_p1 : Code := cutC (bodyOf Tryz.f76) [1, 0]
noncomputable def equ_p2 : Code := cutC (bodyOf Tryz.f76) [1, 1, 0, 0]
noncomputable def equ_L0 : Code := cutC (bodyOf Tryz.f76) [1, 1, 0, 1, 0, 0]
noncomputable def equ_p3 : Code := cutC (bodyOf Tryz.f76) [1, 1, 1]
theorem equ_b : Tryz.f76.body = some (.seq equ_p0 (.seq equ_p1 (.seq (.seq equ_p2 (.block 0 (.loop equ_L0))) equ_p3))) := rfl
/-- ahead of a round -/
def equ_I0 (n : Nat) (a b : List Du) (ta tb : Tok) (S0 : St) (i : Nat) (fs : FS) : Prop :=
  fs.t 0 = .slice (duL a) ta ∧ fs.t 1 = .slice (duL b) tb ∧ fs.t 12 = .int .i64 a.length ∧ fs.t 13 = .int .i64 (i : Nat) ∧ fs.S = S0
theorem equ_go0 (n : Nat) (a b : List Du) (ta tb : Tok) (S0 : St) (hs : a.length ≤ 1048576) (hl : a.length = b.length) (i : Nat) (hi : i < a.length) (q : (a[i].eqv b[i]) = true) (fs : FS) (h : equ_I0 n a b ta tb S0 i fs) :
    ∃ fs', (evCode ⟨Tryz.prog, E.esc 76, n⟩ (ev Tryz.prog E n) (E.ps 76) n equ_L0) fs = some (.norm, fs') ∧ equ_I0 n a b ta tb S0 (i + 1) fs' := by
  obtain ⟨tF, bF, cF, SF⟩ := fs
  obtain ⟨h1, h2, h3, h4, h5⟩ := id h
  simp only at h1 h2 h3 h4 h5
  subst h5
  have hiz : (i : Int) < (a.length : Nat) := by omega
  have hw : IntKind.i64.wrap ((i : Int) + 1) = (i : Int) + 1 := wrap64 _ (by omega)
  have hb : i < b.length := by omega
  have hxa := duL_get a hi
  have hxb := duL_get b hb
  obtain ⟨e1, e2⟩ := evB2_agg (kc := false) (eq_du a[i] b[i])
  rw [q] at e1 e2
  generalize a[i] = x at *
  generalize b[i] = y at *
  simp only [Du.emb] at hxa hxb
  all_goals (
  refine ⟨_, by
    simp (disch := first | (simp only [List.length_append, List.length_cons, List.length_nil]; omega) | (simp [h1, h2, h3, h4]; done) | assumption) [AV.cells?, AV.isCell, equ_L0, cutC, bodyOf, Tryz.f76, h1, h2, h3, h4, hi, hiz, q, hxa, hxb, duL_len, hb, e1, e2]
    rfl, ?_⟩
  simp [equ_I0, upd, h1, h2, h3, h4, hw])
theorem equ_stop0 (n : Nat) (a b : List Du) (ta tb : Tok) (S0 : St) (hs : a.length ≤ 1048576) (hl : a.length = b.length) (i : Nat) (hi : i < a.length) (q : (a[i].eqv b[i]) = false) (fs : FS) (h : equ_I0 n a b ta tb S0 i fs) :
    ∃ fs', (evCode ⟨Tryz.prog, E.esc 76, n⟩ (ev Tryz.prog E n) (E.ps 76) n equ_L0) fs = some (.ret, fs') ∧ (fs'.t 4 = .bool false ∧ fs'.S = S0) := by
  obtain ⟨tF, bF, cF, SF⟩ := fs
  obtain ⟨h1, h2, h3, h4, h5⟩ := id h
  simp only at h1 h2 h3 h4 h5
  subst h5
  have hiz : (i : Int) < (a.length : Nat) := by omega
  have hw : IntKind.i64.wrap ((i : Int) + 1) = (i : Int) + 1 := wrap64 _ (by omega)
  have hb : i < b.length := by omega
  have hxa := duL_get a hi
  have hxb := duL_get b hb
  obtain ⟨e1, e2⟩ := evB2_agg (kc := false) (eq_du a[i] b[i])
  rw [q] at e1 e2
  generalize a[i] = x at *
  generalize b[i] = y at *
  simp only [Du.emb] at hxa hxb
  all_goals (
  refine ⟨_, by
    simp (disch := first | (simp only [List.length_append, List.length_cons, List.length_nil]; omega) | (simp [h1, h2, h3, h4]; done) | assumption) [AV.cells?, AV.isCell, equ_L0, cutC, bodyOf, Tryz.f76, h1, h2, h3, h4, hi, hiz, q, hxa, hxb, duL_len, hb, e1, e2]
    rfl, ?_⟩
  simp [upd, h1, h2, h3, h4, hw])
theorem equ_end0 (n : Nat) (a b : List Du) (ta tb : Tok) (S0 : St) (hs : a.length ≤ 1048576) (hl : a.length = b.length) (fs : FS) (h : equ_I0 n a b ta tb S0 (a.length) fs) : ∃ fs', (evCode ⟨Tryz.prog, E.esc 76, n⟩ (ev Tryz.prog E n) (E.ps 76) n equ_L0) fs = some (.exit 0, fs') ∧ equ_I0 n a b ta tb S0 (a.length) fs' := by
  obtain ⟨tF, bF, cF, SF⟩ := fs
  obtain ⟨h1, h2, h3, h4, h5⟩ := id h
  simp only at h1 h2 h3 h4 h5
  subst h5
  refine ⟨_, by
    simp (disch := first | (simp only [List.length_append, List.length_cons, List.length_nil]; omega) | (simp; done) | assumption) [AV.cells?, AV.isCell, equ_L0, cutC, bodyOf, Tryz.f76, h1, h2, h3, h4, duL_len]
    rfl, ?_⟩
  simp only [equ_I0, upd] at h ⊢
  simpa using h
theorem equ_all0 (n : Nat) (a b : List Du) (ta tb : Tok) (S0 : St) (hs : a.length ≤ 1048576) (hl : a.length = b.length) (hn : a.length < n) (hq : ∀ (i : Nat) (hi : i < a.length), (a[i].eqv b[i]) = true) : ∃ F : FS → FS, (∀ fs, equ_I0 n a b ta tb S0 0 fs → iter n (evCode ⟨Tryz.prog, E.esc 76, n⟩ (ev Tryz.prog E n) (E.ps 76) n equ_L0) fs = some (.exit 0, F fs)) ∧ ∀ fs, equ_I0 n a b ta tb S0 0 fs → equ_I0 n a b ta tb S0 (a.length) (F fs) :=
  for_all (equ_I0 n a b ta tb S0) 0 (a.length) hn (fun i hi fs h => equ_go0 n a b ta tb S0 hs hl i hi (hq i hi) fs h) (fun fs h => equ_end0 n a b ta tb S0 hs hl fs h)
theorem equ_some0 (n : Nat) (a b : List Du) (ta tb : Tok) (S0 : St) (hs : a.length ≤ 1048576) (hl : a.length = b.length) (j : Nat) (hj : j < a.length) (hn : j < n) (hq : ∀ (i : Nat) (hi : i < j), (a[i].eqv b[i]) = true) (q : (a[j].eqv b[j]) = false) : ∃ F : FS → FS, (∀ fs, equ_I0 n a b ta tb S0 0 fs → iter n (evCode ⟨Tryz.prog, E.esc 76, n⟩ (ev Tryz.prog E n) (E.ps 76) n equ_L0) fs = some (.ret, F fs)) ∧ ∀ fs, equ_I0 n a b ta tb S0 0 fs → ((F fs).t 4 = .bool false ∧ (F fs).S = S0) :=
  for_stop (equ_I0 n a b ta tb S0) (.ret) (fun fs => fs.t 4 = .bool false ∧ fs.S = S0) j hn (by simp) (fun i hi fs h => equ_go0 n a b ta tb S0 hs hl i (by omega) (hq i hi) fs h) (fun fs h => equ_stop0 n a b ta tb S0 hs hl j hj q fs h)
theorem ev_equ (n : Nat) (a b : List Du) (ta tb : Tok) (S : St) (hs : a.length ≤ 1048576) (hs' : b.length ≤ 1048576) (hn : a.length < n) : ev Tryz.prog E (n + 1) 76 [.slice (duL a) ta, .slice (duL b) tb] S = some (.ret (.bool (eqvL Du.eqv a b)), S) := by
  rw [ev_enter (n := n) (show E.ok 76 = true from rfl) Tryz.func76 equ_b (Nat.le_of_ble_eq_true rfl) (by decide +kernel)]
  by_cases hl : a.length = b.length
  · have hl' : ((a.length : Int) != (b.length : Int)) = false := by simp; omega
    cases q : eqvL Du.eqv a b
    · obtain ⟨j, hj, q1, q2⟩ := eqvL_none hl q
      obtain ⟨F, hF, hR⟩ := equ_some0 n a b ta tb S hs hl j hj (by omega) q1 q2
      simp only [equ_I0] at hF hR
      simp (disch := first | (simp [upd]; done) | omega | assumption) [AV.cells?, AV.isCell, equ_p0, equ_p1, equ_p2, equ_p3, cutC, bodyOf, Tryz.f76, duL_len, hl', hF, hR]
    · obtain ⟨F, hF, hR⟩ := equ_all0 n a b ta tb S hs hl hn (eqvL_get hl q)
      simp only [equ_I0] at hF hR
      simp (disch := first | (simp [upd]; done) | omega | assumption) [AV.cells?, AV.isCell, equ_p0, equ_p1, equ_p2, equ_p3, cutC, bodyOf, Tryz.f76, duL_len, hl', hF, hR]
  · have hl' : ((a.length : Int) != (b.length : Int)) = true := by simp; omega
    rw [eqvL_ne hl]
    simp (disch := first | (simp [upd]; done) | omega | assumption) [AV.cells?, AV.isCell, equ_p0, equ_p1, equ_p2, equ_p3, cutC, bodyOf, Tryz.f76, duL_len, hl']

/-! ### a right -/
/-- a list, and whether there is sure to be no room behind it -/
structure Ls (α : Type) where
  l : List α
  tk : Bool
structure Rt where
  nm : List UInt8
  pre : X
  on : X
  before : Ls Up
  during : Ls Up
  after : Ls Up
  duties : Ls Du
def Rt.cells (r : Rt) : List AV := .str r.nm :: (r.pre.cells ++ (r.on.cells ++ [.slice (upL r.before.l) (tokOf r.before.tk), .slice (upL r.during.l) (tokOf r.during.tk), .slice (upL r.after.l) (tokOf r.after.tk), .slice (duL r.duties.l) (tokOf r.duties.tk)]))
def Rt.emb (r : Rt) : AV := .agg r.cells
def Rt.eqv (a b : Rt) : Bool := a.nm == b.nm && a.pre.same b.pre && a.on.same b.on && eqvL Up.eqv a.before.l b.before.l && eqvL Up.eqv a.during.l b.during.l && eqvL Up.eqv a.after.l b.after.l && eqvL Du.eqv a.duties.l b.duties.l
def rtL (l : List Rt) : List AV := l.map Rt.emb
theorem rtL_len (l : List Rt) : (rtL l).length = l.length := List.length_map _
theorem rtL_get (l : List Rt) {i : Nat} (h : i < l.length) : (rtL l)[i]? = some l[i].emb := by simp [rtL, h]
def upsSize : List Up → Nat
  | [] => 0
  | u :: l => u.to.size + 1 + upsSize l
theorem ups_len : ∀ l : List Up, l.length ≤ upsSize l
  | [] => by simp
  | u :: l => by have := ups_len l; simp only [List.length_cons, upsSize]; omega
theorem ups_mem {u : Up} : ∀ {l : List Up}, u ∈ l → u.to.size ≤ upsSize l
  | v :: l, h => by
    rcases List.mem_cons.1 h with rfl | h
    · simp only [upsSize]; omega
    · have := ups_mem h; simp only [upsSize]; omega
/-- how much there is to go through -/
def Rt.size (r : Rt) : Nat := r.pre.size + r.on.size + upsSize r.before.l + upsSize r.during.l + upsSize r.after.l + r.duties.l.length + 1

theorem ev_efus (n m : Nat) (a b : List Up) (ta tb : Tok) (S : St) (ha : upsSize a ≤ m) (hb : upsSize b ≤ 1048576) (hm : m ≤ 1048576) (hn : 2 * m + 3 ≤ n) :
    ev Tryz.prog E (n + 1) 73 [.slice (upL a) ta, .slice (upL b) tb, .fn 74 [] []] S = some (.ret (.bool (eqvL Up.eqv a b)), S) := by
  have h1 := ups_len a
  have h2 := ups_len b
  refine ev_efu n a b ta tb S _ (by omega) (by omega) (by omega) fun x hx y hy => ?_
  obtain ⟨n, rfl⟩ : ∃ k, n = k + 1 := ⟨n - 1, by omega⟩
  have h3 := ups_mem hx
  have h4 := ups_mem hy
  exact ev_pSame n x y (by omega) (by omega) (by omega) S

theorem ev_like (n : Nat) (a b : Rt) (ha : a.size ≤ 1048576) (hb : b.size ≤ 1048576) (hn : 2 * a.size + 4 ≤ n) (S : St) : ev Tryz.prog E (n + 1) 38 [a.emb, b.emb] S = some (.ret (.bool (a.eqv b)), S) := by
  obtain ⟨n, rfl⟩ : ∃ k, n = k + 1 := ⟨n - 1, by omega⟩
  obtain ⟨na, pa, oa, ⟨ba, tba⟩, ⟨da, tda⟩, ⟨aa, taa⟩, ⟨ua, tua⟩⟩ := a
  obtain ⟨nb, pb, ob, ⟨bb, tbb⟩, ⟨db, tdb⟩, ⟨ab, tab⟩, ⟨ub, tub⟩⟩ := b
  simp only [Rt.size] at ha hb hn
  have e1 := ev_efus n (upsSize ba) ba bb (tokOf tba) (tokOf tbb) S (Nat.le_refl _) (by omega) (by omega) (by omega)
  have e2 := ev_efus n (upsSize da) da db (tokOf tda) (tokOf tdb) S (Nat.le_refl _) (by omega) (by omega) (by omega)
  have e3 := ev_efus n (upsSize aa) aa ab (tokOf taa) (tokOf tab) S (Nat.le_refl _) (by omega) (by omega) (by omega)
  have e4 := ev_equ n ua ub (tokOf tua) (tokOf tub) S (by omega) (by omega) (by omega)
  have e5 := ev_aSame _ pa pb (Nat.le_refl _) (by omega) (by omega) (n + 1) (by omega) S
  have e6 := ev_aSame _ oa ob (Nat.le_refl _) (by omega) (by omega) (n + 1) (by omega) S
  obtain ⟨k1, m1, x1, l1, u1, t1, s1⟩ := pa
  obtain ⟨k2, m2, x2, l2, u2, t2, s2⟩ := pb
  obtain ⟨k3, m3, x3, l3, u3, t3, s3⟩ := oa
  obtain ⟨k4, m4, x4, l4, u4, t4, s4⟩ := ob
  simp only [X.emb] at e5 e6
  simp only [Rt.emb, Rt.cells, X.cells, Rt.eqv, List.cons_append, List.nil_append]
  generalize X.same (.mk k1 m1 x1 l1 u1 t1 s1) (.mk k2 m2 x2 l2 u2 t2 s2) = q1 at *
  generalize X.same (.mk k3 m3 x3 l3 u3 t3 s3) (.mk k4 m4 x4 l4 u4 t4 s4) = q2 at *
  generalize eqvL Up.eqv ba bb = q3 at *
  generalize eqvL Up.eqv da db = q4 at *
  generalize eqvL Up.eqv aa ab = q5 at *
  generalize eqvL Du.eqv ua ub = q6 at *
  clear ha hb hn
  rw [ev_enter (n := n + 1) (show E.ok 38 = true from rfl) Tryz.func38 (fn := Tryz.f38) rfl (Nat.le_of_ble_eq_true rfl) (by decide +kernel)]
  generalize hnm : (na == nb) = q0
  rcases or3 q3 q4 q5 with rfl | ⟨rfl, rfl⟩ | ⟨rfl, rfl, rfl⟩ | ⟨rfl, rfl, rfl⟩ <;> rcases or3 q0 q1 q2 with rfl | ⟨rfl, rfl⟩ | ⟨rfl, rfl, rfl⟩ | ⟨rfl, rfl, rfl⟩ <;>
    simp (disch := first | (simp only [List.length_append, List.length_cons, List.length_nil]; omega) | (simp; done) | assumption) [AV.cells?, AV.isCell, Tryz.f38, hnm, e1, e2, e3, e4, e5, e6]

/-! ### slices.EqualFunc at rights; policy.Same -/
noncomputable def efr_p0 : Code := cutC (bodyOf Tryz.f37) [0]
noncomputable def efr_p1 : Code := cutC (bodyOf Tryz.f37) [1, 0]
noncomputable def efr_p2 : Code := cutC (bodyOf Tryz.f37) [1, 1, 0, 0]
noncomputable def efr_L0 : Code := cutC (bodyOf Tryz.f37) [1, 1, 0, 1, 0, 0]
noncomputable def efr_p3 : Code := cutC (bodyOf Tryz.f37) [1, 1, 1]
theorem efr_b : Tryz.f37.body = some (.seq efr_p0 (.seq efr_p1 (.seq (.seq efr_p2 (.block 0 (.loop efr_L0))) efr_p3))) := rfl
/-- ahead of a round -/
def efr_I0 (n : Nat) (a b : List Rt) (ta tb : Tok) (S0 : St) (f : FuncId) (i : Nat) (fs : FS) : Prop :=
  fs.t 1 = .slice (rtL b) tb ∧ fs.t 2 = .fn f [] [] ∧ fs.t 15 = .slice (rtL a) ta ∧ fs.t 16 = .int .i64 a.length ∧ fs.t 17 = .int .i64 (i : Nat) ∧ fs.S = S0
theorem efr_go0 (n : Nat) (a b : List Rt) (ta tb : Tok) (S0 : St) (f : FuncId) (hs : a.length ≤ 1048576) (hl : a.length = b.length) (hrec : ∀ (i : Nat) (hi : i < a.length), ev Tryz.prog E n f [a[i].emb, b[i].emb] S0 = some (.ret (.bool (a[i].eqv b[i])), S0)) (i : Nat) (hi : i < a.length) (q : (a[i].eqv b[i]) = true) (fs : FS) (h : efr_I0 n a b ta tb S0 f i fs) :
    ∃ fs', (evCode ⟨Tryz.prog, E.esc 37, n⟩ (ev Tryz.prog E n) (E.ps 37) n efr_L0) fs = some (.norm, fs') ∧ efr_I0 n a b ta tb S0 f (i + 1) fs' := by
  obtain ⟨tF, bF, cF, SF⟩ := fs
  obtain ⟨h1, h2, h3, h4, h5, h6⟩ := id h
  simp only at h1 h2 h3 h4 h5 h6
  subst h6
  have hiz : (i : Int) < (a.length : Nat) := by omega
  have hw : IntKind.i64.wrap ((i : Int) + 1) = (i : Int) + 1 := wrap64 _ (by omega)
  have hr := hrec i hi
  rw [q] at hr
  have hb : i < b.length := by omega
  have hxa := rtL_get a hi
  have hxb := rtL_get b hb
  generalize a[i] = x at *
  generalize b[i] = y at *
  obtain ⟨na, ⟨k1, m1, x1, l1, u1, t1, s1⟩, ⟨k2, m2, x2, l2, u2, t2, s2⟩, ⟨ba, tba⟩, ⟨da, tda⟩, ⟨aa, taa⟩, ⟨ua, tua⟩⟩ := x
  obtain ⟨nb, ⟨k3, m3, x3, l3, u3, t3, s3⟩, ⟨k4, m4, x4, l4, u4, t4, s4⟩, ⟨bb, tbb⟩, ⟨db, tdb⟩, ⟨ab, tab⟩, ⟨ub, tub⟩⟩ := y
  simp only [Rt.emb, Rt.cells, X.cells, List.cons_append, List.nil_append] at hxa hxb hr
  all_goals (
  refine ⟨_, by
    simp (disch := first | (simp only [List.length_append, List.length_cons, List.length_nil]; omega) | (simp [h1, h2, h3, h4, h5]; done) | assumption) [AV.cells?, AV.isCell, efr_L0, cutC, bodyOf, Tryz.f37, h1, h2, h3, h4, h5, hi, hiz, q, hr, hxa, hxb, rtL_len, hb]
    rfl, ?_⟩
  simp [efr_I0, upd, h1, h2, h3, h4, h5, hw])
theorem efr_stop0 (n : Nat) (a b : List Rt) (ta tb : Tok) (S0 : St) (f : FuncId) (hs : a.length ≤ 1048576) (hl : a.length = b.length) (hrec : ∀ (i : Nat) (hi : i < a.length), ev Tryz.prog E n f [a[i].emb, b[i].emb] S0 = some (.ret (.bool (a[i].eqv b[i])), S0)) (i : Nat) (hi : i < a.length) (q : (a[i].eqv b[i]) = false) (fs : FS) (h : efr_I0 n a b ta tb S0 f i fs) :
    ∃ fs', (evCode ⟨Tryz.prog, E.esc 37, n⟩ (ev Tryz.prog E n) (E.ps 37) n efr_L0) fs = some (.ret, fs') ∧ (fs'.t 6 = .bool false ∧ fs'.S = S0) := by
  obtain ⟨tF, bF, cF, SF⟩ := fs
  obtain ⟨h1, h2, h3, h4, h5, h6⟩ := id h
  simp only at h1 h2 h3 h4 h5 h6
  subst h6
  have hiz : (i : Int) < (a.length : Nat) := by omega
  have hw : IntKind.i64.wrap ((i : Int) + 1) = (i : Int) + 1 := wrap64 _ (by omega)
  have hr := hrec i hi
  rw [q] at hr
  have hb : i < b.length := by omega
  have hxa := rtL_get a hi
  have hxb := rtL_get b hb
  generalize a[i] = x at *
  generalize b[i] = y at *
  obtain ⟨na, ⟨k1, m1, x1, l1, u1, t1, s1⟩, ⟨k2, m2, x2, l2, u2, t2, s2⟩, ⟨ba, tba⟩, ⟨da, tda⟩, ⟨aa, taa⟩, ⟨ua, tua⟩⟩ := x
  obtain ⟨nb, ⟨k3, m3, x3, l3, u3, t3, s3⟩, ⟨k4, m4, x4, l4, u4, t4, s4⟩, ⟨bb, tbb⟩, ⟨db, tdb⟩, ⟨ab, tab⟩, ⟨ub, tub⟩⟩ := y
  simp only [Rt.emb, Rt.cells, X.cells, List.cons_append, List.nil_append] at hxa hxb hr
  all_goals (
  refine ⟨_, by
    simp (disch := first | (simp only [List.length_append, List.length_cons, List.length_nil]; omega) | (simp [h1, h2, h3, h4, h5]; done) | assumption) [AV.cells?, AV.isCell, efr_L0, cutC, bodyOf, Tryz.f37, h1, h2, h3, h4, h5, hi, hiz, q, hr, hxa, hxb, rtL_len, hb]
    rfl, ?_⟩
  simp [upd, h1, h2, h3, h4, h5, hw])
theorem efr_end0 (n : Nat) (a b : List Rt) (ta tb : Tok) (S0 : St) (f : FuncId) (hs : a.length ≤ 1048576) (hl : a.length = b.length) (hrec : ∀ (i : Nat) (hi : i < a.length), ev Tryz.prog E n f [a[i].emb, b[i].emb] S0 = some (.ret (.bool (a[i].eqv b[i])), S0)) (fs : FS) (h : efr_I0 n a b ta tb S0 f (a.length) fs) : ∃ fs', (evCode ⟨Tryz.prog, E.esc 37, n⟩ (ev Tryz.prog E n) (E.ps 37) n efr_L0) fs = some (.exit 0, fs') ∧ efr_I0 n a b ta tb S0 f (a.length) fs' := by
  obtain ⟨tF, bF, cF, SF⟩ := fs
  obtain ⟨h1, h2, h3, h4, h5, h6⟩ := id h
  simp only at h1 h2 h3 h4 h5 h6
  subst h6
  refine ⟨_, by
    simp (disch := first | (simp only [List.length_append, List.length_cons, List.length_nil]; omega) | (simp; done) | assumption) [AV.cells?, AV.isCell, efr_L0, cutC, bodyOf, Tryz.f37, h1, h2, h3, h4, h5, rtL_len]
    rfl, ?_⟩
  simp only [efr_I0, upd] at h ⊢
  simpa using h
theorem efr_all0 (n : Nat) (a b : List Rt) (ta tb : Tok) (S0 : St) (f : FuncId) (hs : a.length ≤ 1048576) (hl : a.length = b.length) (hrec : ∀ (i : Nat) (hi : i < a.length), ev Tryz.prog E n f [a[i].emb, b[i].emb] S0 = some (.ret (.bool (a[i].eqv b[i])), S0)) (hn : a.length < n) (hq : ∀ (i : Nat) (hi : i < a.length), (a[i].eqv b[i]) = true) : ∃ F : FS → FS, (∀ fs, efr_I0 n a b ta tb S0 f 0 fs → iter n (evCode ⟨Tryz.prog, E.esc 37, n⟩ (ev Tryz.prog E n) (E.ps 37) n efr_L0) fs = some (.exit 0, F fs)) ∧ ∀ fs, efr_I0 n a b ta tb S0 f 0 fs → efr_I0 n a b ta tb S0 f (a.length) (F fs) :=
  for_all (efr_I0 n a b ta tb S0 f) 0 (a.length) hn (fun i hi fs h => efr_go0 n a b ta tb S0 f hs hl hrec i hi (hq i hi) fs h) (fun fs h => efr_end0 n a b ta tb S0 f hs hl hrec fs h)
theorem efr_some0 (n : Nat) (a b : List Rt) (ta tb : Tok) (S0 : St) (f : FuncId) (hs : a.length ≤ 1048576) (hl : a.length = b.length) (hrec : ∀ (i : Nat) (hi : i < a.length), ev Tryz.prog E n f [a[i].emb, b[i].emb] S0 = some (.ret (.bool (a[i].eqv b[i])), S0)) (j : Nat) (hj : j < a.length) (hn : j < n) (hq : ∀ (i : Nat) (hi : i < j), (a[i].eqv b[i]) = true) (q : (a[j].eqv b[j]) = false) : ∃ F : FS → FS, (∀ fs, efr_I0 n a b ta tb S0 f 0 fs → iter n (evCode ⟨Tryz.prog, E.esc 37, n⟩ (ev Tryz.prog E n) (E.ps 37) n efr_L0) fs = some (.ret, F fs)) ∧ ∀ fs, efr_I0 n a b ta tb S0 f 0 fs → ((F fs).t 6 = .bool false ∧ (F fs).S = S0) :=
  for_stop (efr_I0 n a b ta tb S0 f) (.ret) (fun fs => fs.t 6 = .bool false ∧ fs.S = S0) j hn (by simp) (fun i hi fs h => efr_go0 n a b ta tb S0 f hs hl hrec i (by omega) (hq i hi) fs h) (fun fs h => efr_stop0 n a b ta tb S0 f hs hl hrec j hj q fs h)
theorem ev_efr (n : Nat) (a b : List Rt) (ta tb : Tok) (S : St) (f : FuncId) (hs : a.length ≤ 1048576) (hs' : b.length ≤ 1048576) (hn : a.length < n) (hrec : ∀ x ∈ a, ∀ y ∈ b, ev Tryz.prog E n f [x.emb, y.emb] S = some (.ret (.bool (x.eqv y)), S)) :
    ev Tryz.prog E (n + 1) 37 [.slice (rtL a) ta, .slice (rtL b) tb, .fn f [] []] S = some (.ret (.bool (eqvL Rt.eqv a b)), S) := by
  rw [ev_enter (n := n) (show E.ok 37 = true from rfl) Tryz.func37 efr_b (Nat.le_of_ble_eq_true rfl) (by decide +kernel)]
  by_cases hl : a.length = b.length
  · have hl' : ((a.length : Int) != (b.length : Int)) = false := by simp; omega
    have hrec' := fun (i : Nat) (hi : i < a.length) => hrec a[i] (List.getElem_mem hi) b[i] (List.getElem_mem (by omega))
    cases q : eqvL Rt.eqv a b
    · obtain ⟨j, hj, q1, q2⟩ := eqvL_none hl q
      obtain ⟨F, hF, hR⟩ := efr_some0 n a b ta tb S f hs hl hrec' j hj (by omega) q1 q2
      simp only [efr_I0] at hF hR
      simp (disch := first | (simp [upd]; done) | omega | assumption) [AV.cells?, AV.isCell, efr_p0, efr_p1, efr_p2, efr_p3, cutC, bodyOf, Tryz.f37, rtL_len, hl', hF, hR]
    · obtain ⟨F, hF, hR⟩ := efr_all0 n a b ta tb S f hs hl hrec' hn (eqvL_get hl q)
      simp only [efr_I0] at hF hR
      simp (disch := first | (simp [upd]; done) | omega | assumption) [AV.cells?, AV.isCell, efr_p0, efr_p1, efr_p2, efr_p3, cutC, bodyOf, Tryz.f37, rtL_len, hl', hF, hR]
  · have hl' : ((a.length : Int) != (b.length : Int)) = true := by simp; omega
    rw [eqvL_ne hl]
    simp (disch := first | (simp [upd]; done) | omega | assumption) [AV.cells?, AV.isCell, efr_p0, efr_p1, efr_p2, efr_p3, cutC, bodyOf, Tryz.f37, rtL_len, hl']

/-! ### a policy -/
structure Pl where
  decls : Ls Dc
  rights : Ls Rt
def Pl.emb (p : Pl) : AV := .agg [.slice (dcL p.decls.l) (tokOf p.decls.tk), .slice (rtL p.rights.l) (tokOf p.rights.tk)]
def Pl.eqv (p q : Pl) : Bool := eqvL Dc.eqv p.decls.l q.decls.l && eqvL Rt.eqv p.rights.l q.rights.l
def rtsSize : List Rt → Nat
  | [] => 0
  | u :: l => u.size + 1 + rtsSize l
theorem rts_len : ∀ l : List Rt, l.length ≤ rtsSize l
  | [] => by simp
  | u :: l => by have := rts_len l; simp only [List.length_cons, rtsSize]; omega
theorem rts_mem {u : Rt} : ∀ {l : List Rt}, u ∈ l → u.size ≤ rtsSize l
  | v :: l, h => by
    rcases List.mem_cons.1 h with rfl | h
    · simp only [rtsSize]; omega
    · have := rts_mem h; simp only [rtsSize]; omega
def dcsSize : List Dc → Nat
  | [] => 0
  | d :: l => 1 + dcsSize l
theorem dcs_len : ∀ l : List Dc, l.length ≤ dcsSize l
  | [] => by simp
  | u :: l => by have := dcs_len l; simp only [List.length_cons, dcsSize]; omega
def Pl.size (p : Pl) : Nat := dcsSize p.decls.l + rtsSize p.rights.l + 1

theorem ev_Same (n : Nat) (a b : Pl) (ha : a.size ≤ 1048576) (hb : b.size ≤ 1048576) (hn : 2 * a.size + 6 ≤ n) (S : St) : ev Tryz.prog E (n + 1) 14 [a.emb, b.emb] S = some (.ret (.bool (a.eqv b)), S) := by
  obtain ⟨n, rfl⟩ : ∃ k, n = k + 2 := ⟨n - 2, by omega⟩
  obtain ⟨⟨da, tda⟩, ⟨ra, tra⟩⟩ := a
  obtain ⟨⟨db, tdb⟩, ⟨rb, trb⟩⟩ := b
  simp only [Pl.size] at ha hb hn
  have l1 := dcs_len da
  have l2 := dcs_len db
  have l3 := rts_len ra
  have l4 := rts_len rb
  have e1 := ev_eqd (n + 1) da db (tokOf tda) (tokOf tdb) S (by omega) (by omega) (by omega)
  have e2 := ev_efr (n + 1) ra rb (tokOf tra) (tokOf trb) S 38 (by omega) (by omega) (by omega) fun x hx y hy => by
    have h1 := rts_mem hx
    have h2 := rts_mem hy
    exact ev_like n x y (by omega) (by omega) (by omega) S
  simp only [Pl.emb, Pl.eqv]
  generalize eqvL Dc.eqv da db = q1 at *
  generalize eqvL Rt.eqv ra rb = q2 at *
  rw [ev_enter (n := n + 2) (show E.ok 14 = true from rfl) Tryz.func14 (fn := Tryz.f14) rfl (Nat.le_of_ble_eq_true rfl) (by decide +kernel)]
  cases q1 <;> simp (disch := first | (simp only [List.length_append, List.length_cons, List.length_nil]; omega) | (simp; done) | assumption) [AV.cells?, AV.isCell, Tryz.f14, e1, e2]
end Go.Proofs.YtcpoinfdnimanaaGreatDoor.PO
/- Are two expressions alike, evaluated. No condition. -/
namespace Go.Proofs.YtcpoinfdnimanaaGreatDoor.PT
set_option linter.unusedVariables false
set_option linter.unusedSimpArgs false
open Go AE EX
set_option maxRecDepth 100000

noncomputable def eLoop : Code := cutC (bodyOf Tryz.f33) [1, 1, 0, 1, 0, 0]
noncomputable def el0 : Code := cutC (bodyOf Tryz.f33) [0]
noncomputable def el1 : Code := cutC (bodyOf Tryz.f33) [1, 0]
noncomputable def el2 : Code := cutC (bodyOf Tryz.f33) [1, 1, 0, 0]
noncomputable def el3 : Code := cutC (bodyOf Tryz.f33) [1, 1, 1]
theorem f19b : Tryz.f33.body = some (.seq el0 (.seq el1 (.seq (.seq el2 (.block 0 (.loop eLoop))) el3))) := rfl

def EI (n : Nat) (C D : List AV) (ks ks' : List X) (S0 : St) (m : Nat) (fs : FS) : Prop :=
  ∃ i, i + m = ks.length ∧ fs.t 2 = .loc n 2 1 0 ∧ fs.t 3 = .loc n 3 2 0 ∧ fs.b 2 = (1, C) ∧ fs.b 3 = (2, D) ∧ fs.t 5 = .int .i64 i ∧ fs.S = S0 ∧ sameL (ks.take i) (ks'.take i) = true
def EQ (ks ks' : List X) (S0 : St) (r : Out × FS) : Prop :=
  r.2.S = S0 ∧ ((r.1 = .exit 0 ∧ sameL ks ks' = true) ∨ (r.1 = .ret ∧ r.2.t 4 = .bool false ∧ sameL ks ks' = false))

theorem same_round (n : Nat) (c0 c1' c2' c3' c4' d0 d1 d2 d3 d4 : AV) (tk tk' : Bool) (ks ks' : List X) (S0 : St) (hs : ks.length ≤ 1048576) (hl : ks'.length = ks.length)
    (hrec : ∀ x ∈ ks, ∀ y ∈ ks', ∀ S, ev Tryz.prog E n 33 [x.emb, y.emb] S = some (.ret (.bool (x.same y)), S)) (m : Nat) (fs : FS)
    (h : EI n [c0, c1', c2', c3', c4', .slice (embL ks) (tokOf tk)] [d0, d1, d2, d3, d4, .slice (embL ks') (tokOf tk')] ks ks' S0 m fs) :
    ∃ o fs', evCode ⟨Tryz.prog, E.esc 33, n⟩ (ev Tryz.prog E n) (E.ps 33) n eLoop fs = some (o, fs') ∧
      ((o = .norm ∧ ∃ m', m' < m ∧ EI n [c0, c1', c2', c3', c4', .slice (embL ks) (tokOf tk)] [d0, d1, d2, d3, d4, .slice (embL ks') (tokOf tk')] ks ks' S0 m' fs') ∨ (o ≠ .norm ∧ EQ ks ks' S0 (o, fs'))) := by
  obtain ⟨t, b, v, S⟩ := fs
  obtain ⟨i, hi, h1, h2, h3, h4, h5, h6, h7⟩ := h
  simp only at h1 h2 h3 h4 h5 h6
  subst h6
  have hlen := embL_length ks
  have hlen' := embL_length ks'
  cases m with
  | zero =>
    have hi : i = ks.length := by omega
    subst hi
    refine ⟨.exit 0, _, by
      simp (disch := first | (simp only [List.length_append, List.length_cons, List.length_nil]; omega) | (simp; done) | assumption) [AV.cells?, AV.isCell, eLoop, cutC, bodyOf, Tryz.f33, h1, h2, h3, h4, h5, fq5, k22, c22, a22, sq22, bq3, hlen]
      rfl, .inr ⟨by simp, rfl, .inl ⟨rfl, by rw [List.take_length, ← hl, List.take_length] at h7; exact h7⟩⟩⟩
  | succ m =>
    have hlt : i < ks.length := by omega
    have hlt' : i < ks'.length := by omega
    have hltz : (i : Int) < ks.length := by omega
    have hxe : ks[i]? = some ks[i] := List.getElem?_eq_getElem hlt
    have hye : ks'[i]? = some ks'[i] := List.getElem?_eq_getElem hlt'
    have hr := hrec ks[i] (List.getElem_mem hlt) ks'[i] (List.getElem_mem hlt') S
    have hemb : (embL ks)[i]? = some ks[i].emb := by rw [embL_map, List.getElem?_map, hxe]; rfl
    have hemb' : (embL ks')[i]? = some ks'[i].emb := by rw [embL_map, List.getElem?_map, hye]; rfl
    have t1 : ks.take (i + 1) = ks.take i ++ [ks[i]] := by rw [List.take_add_one, hxe]; rfl
    have t2 : ks'.take (i + 1) = ks'.take i ++ [ks'[i]] := by rw [List.take_add_one, hye]; rfl
    have hw : IntKind.i64.wrap ((i : Int) + 1) = (i : Int) + 1 := wrap64 _ (by omega)
    have ha1 := cells_all ks[i]
    have hc1 := (cells_ok ks[i]).2
    have ht1 : List.take 6 ks[i].cells = ks[i].cells := List.take_of_length_le (by omega)
    have ha2 := cells_all ks'[i]
    have hc2 := (cells_ok ks'[i]).2
    have ht2 : List.take 6 ks'[i].cells = ks'[i].cells := List.take_of_length_le (by omega)
    have hps : E.ps 33 6 = [(1, 6), (4, 6), (1, 9), (4, 9)] := rfl
    obtain ⟨z, hz⟩ := ii24
    rw [emb_cells] at hemb hemb'
    rw [emb_cells, emb_cells] at hr
    have hst : sameL (ks.take (i + 1)) (ks'.take (i + 1)) = ks[i].same ks'[i] := by
      rw [t1, t2, sameL_append _ _ _ _ (by simp; omega), h7]
      simp [sameL]
    cases e1 : ks[i].same ks'[i]
    · rw [e1] at hr hst
      have hbad : sameL ks ks' = false := by
        have : sameL (ks.take (i + 1) ++ ks.drop (i + 1)) (ks'.take (i + 1) ++ ks'.drop (i + 1)) = false := by
          rw [sameL_append _ _ _ _ (by simp; omega), hst]; rfl
        rwa [List.take_append_drop, List.take_append_drop] at this
      generalize ks[i].cells = C1 at *
      generalize ks'[i].cells = C2 at *
      refine ⟨.ret, _, by
        simp (disch := first | (simp only [List.length_append, List.length_cons, List.length_nil]; omega) | (simp; done) | assumption) [AV.cells?, AV.isCell, eLoop, cutC, bodyOf, Tryz.f33, E_esc, h1, h2, h3, h4, h5, fq5, k22, c22, a22, k24, c24, a24, i24, hz, sq22, bq3, hlen, hlen', hlt, hltz, hemb, hemb', hr, hps, ha1, hc1, ht1, ha2, hc2, ht2]
        rfl, .inr ⟨by simp, rfl, .inr ⟨rfl, by simp [upd], hbad⟩⟩⟩
    · rw [e1] at hr hst
      generalize ks[i].cells = C1 at *
      generalize ks'[i].cells = C2 at *
      refine ⟨.norm, _, by
        simp (disch := first | (simp only [List.length_append, List.length_cons, List.length_nil]; omega) | (simp; done) | assumption) [AV.cells?, AV.isCell, eLoop, cutC, bodyOf, Tryz.f33, E_esc, h1, h2, h3, h4, h5, fq5, k22, c22, a22, k24, c24, a24, i24, hz, sq22, bq3, hlen, hlen', hlt, hltz, hemb, hemb', hr, hps, ha1, hc1, ht1, ha2, hc2, ht2]
        rfl, .inl ⟨rfl, m, by omega, i + 1, by omega, by simp [upd, h1], by simp [upd, h2], by simp [upd, h3], by simp [upd, h4], by simp [upd, hw], rfl, hst⟩⟩

theorem ev_same : ∀ (m : Nat) (x y : X), x.size ≤ m → y.size ≤ 1048576 → m ≤ 1048576 → ∀ n, m + 2 ≤ n → ∀ S, ev Tryz.prog E n 33 [x.emb, y.emb] S = some (.ret (.bool (x.same y)), S)
  | 0, x, _, hm, _, _, _, _, _ => absurd hm (by have := size_pos x; omega)
  | m + 1, x, y, hm, hy, hmm, n, hn, S => by
    obtain ⟨n, rfl⟩ : ∃ k, n = k + 1 := ⟨n - 1, by omega⟩
    obtain ⟨k, nm, a, lo, hi, tk, ks⟩ := x
    obtain ⟨k', nm', a', lo', hi', tk', ks'⟩ := y
    simp only [X.size] at hm hy
    have hl := sizeL_length ks
    have hl' := sizeL_length ks'
    have hlen := embL_length ks
    have hlen' := embL_length ks'
    simp only [X.emb]
    rw [ev_enter (n := n) (show E.ok 33 = true from rfl) Tryz.func33 f19b (Nat.le_of_ble_eq_true rfl) (by decide +kernel)]
    cases h0 : (k == k')
    · have hx : (X.mk k nm a lo hi tk ks).same (.mk k' nm' a' lo' hi' tk' ks') = false := by simp only [X.same, h0]; simp
      rw [hx]
      simp (disch := first | (simp only [List.length_append, List.length_cons, List.length_nil]; omega) | (simp; done) | assumption) [AV.cells?, AV.isCell, el0, el1, el2, el3, cutC, bodyOf, Tryz.f33, E_esc, k24, c24, a24, k3, c3, a3, k2, c2, a2, k9, c9, a9, k22, c22, a22, fq0, fq1, fq2, fq3, fq4, fq5, sq22, bq3, bq2, bq9, bne, hlen, hlen', -AV.isCell, h0]
    cases h1 : (nm == nm')
    · have hx : (X.mk k nm a lo hi tk ks).same (.mk k' nm' a' lo' hi' tk' ks') = false := by simp only [X.same, h0, h1]; simp
      rw [hx]
      simp (disch := first | (simp only [List.length_append, List.length_cons, List.length_nil]; omega) | (simp; done) | assumption) [AV.cells?, AV.isCell, el0, el1, el2, el3, cutC, bodyOf, Tryz.f33, E_esc, k24, c24, a24, k3, c3, a3, k2, c2, a2, k9, c9, a9, k22, c22, a22, fq0, fq1, fq2, fq3, fq4, fq5, sq22, bq3, bq2, bq9, bne, hlen, hlen', -AV.isCell, h0, h1]
    cases h2 : (a == a')
    · have hx : (X.mk k nm a lo hi tk ks).same (.mk k' nm' a' lo' hi' tk' ks') = false := by simp only [X.same, h0, h1, h2]; simp
      rw [hx]
      simp (disch := first | (simp only [List.length_append, List.length_cons, List.length_nil]; omega) | (simp; done) | assumption) [AV.cells?, AV.isCell, el0, el1, el2, el3, cutC, bodyOf, Tryz.f33, E_esc, k24, c24, a24, k3, c3, a3, k2, c2, a2, k9, c9, a9, k22, c22, a22, fq0, fq1, fq2, fq3, fq4, fq5, sq22, bq3, bq2, bq9, bne, hlen, hlen', -AV.isCell, h0, h1, h2]
    cases h3 : (lo == lo')
    · have hx : (X.mk k nm a lo hi tk ks).same (.mk k' nm' a' lo' hi' tk' ks') = false := by simp only [X.same, h0, h1, h2, h3]; simp
      rw [hx]
      simp (disch := first | (simp only [List.length_append, List.length_cons, List.length_nil]; omega) | (simp; done) | assumption) [AV.cells?, AV.isCell, el0, el1, el2, el3, cutC, bodyOf, Tryz.f33, E_esc, k24, c24, a24, k3, c3, a3, k2, c2, a2, k9, c9, a9, k22, c22, a22, fq0, fq1, fq2, fq3, fq4, fq5, sq22, bq3, bq2, bq9, bne, hlen, hlen', -AV.isCell, h0, h1, h2, h3]
    cases h4 : (hi == hi')
    · have hx : (X.mk k nm a lo hi tk ks).same (.mk k' nm' a' lo' hi' tk' ks') = false := by simp only [X.same, h0, h1, h2, h3, h4]; simp
      rw [hx]
      simp (disch := first | (simp only [List.length_append, List.length_cons, List.length_nil]; omega) | (simp; done) | assumption) [AV.cells?, AV.isCell, el0, el1, el2, el3, cutC, bodyOf, Tryz.f33, E_esc, k24, c24, a24, k3, c3, a3, k2, c2, a2, k9, c9, a9, k22, c22, a22, fq0, fq1, fq2, fq3, fq4, fq5, sq22, bq3, bq2, bq9, bne, hlen, hlen', -AV.isCell, h0, h1, h2, h3, h4]
    cases h5 : (ks.length == ks'.length)
    · have hx : (X.mk k nm a lo hi tk ks).same (.mk k' nm' a' lo' hi' tk' ks') = false := by simp only [X.same, h0, h1, h2, h3, h4, h5]; simp
      have h5z : ((ks.length : Int) == (ks'.length : Int)) = false := by
        have : ks.length ≠ ks'.length := by simpa using h5
        simp; omega
      rw [hx]
      simp (disch := first | (simp only [List.length_append, List.length_cons, List.length_nil]; omega) | (simp; done) | assumption) [AV.cells?, AV.isCell, el0, el1, el2, el3, cutC, bodyOf, Tryz.f33, E_esc, k24, c24, a24, k3, c3, a3, k2, c2, a2, k9, c9, a9, k22, c22, a22, fq0, fq1, fq2, fq3, fq4, fq5, sq22, bq3, bq2, bq9, bne, hlen, hlen', -AV.isCell, h0, h1, h2, h3, h4, h5z]
    have e5 : ks'.length = ks.length := by
      have : ks.length = ks'.length := by simpa using h5
      omega
    have h5z : ((ks.length : Int) == (ks'.length : Int)) = true := by simp; omega
    have hx : (X.mk k nm a lo hi tk ks).same (.mk k' nm' a' lo' hi' tk' ks') = sameL ks ks' := by simp only [X.same, h0, h1, h2, h3, h4, h5]; simp
    rw [hx]
    have key : ∀ fs, EI n [.int .i64 k, .str nm, .int .i64 a, .int .i64 lo, .int .i64 hi, .slice (embL ks) (tokOf tk)] [.int .i64 k', .str nm', .int .i64 a', .int .i64 lo', .int .i64 hi', .slice (embL ks') (tokOf tk')] ks ks' S ks.length fs →
        ∃ r, iter n (evCode ⟨Tryz.prog, E.esc 33, n⟩ (ev Tryz.prog E n) (E.ps 33) n eLoop) fs = some r ∧ EQ ks ks' S r := fun fs h =>
      iter_meas (fun q fs h => same_round n _ _ _ _ _ _ _ _ _ _ tk tk' ks ks' S (by omega) e5 (fun x hx y hy' S => ev_same m x y (by have := sizeL_mem hx; omega) (by have := sizeL_mem hy'; omega) (by omega) n (by omega) S) q fs h) ks.length n fs (by omega) h
    cases hb : sameL ks ks'
    · have key2 : ∀ fs : FS, (fs.t 2 = .loc n 2 1 0 ∧ fs.t 3 = .loc n 3 2 0 ∧ fs.b 2 = (1, [.int .i64 k, .str nm, .int .i64 a, .int .i64 lo, .int .i64 hi, .slice (embL ks) (tokOf tk)]) ∧ fs.b 3 = (2, [.int .i64 k', .str nm', .int .i64 a', .int .i64 lo', .int .i64 hi', .slice (embL ks') (tokOf tk')]) ∧ fs.t 5 = .int .i64 0 ∧ fs.S = S) →
          ∃ r, iter n (evCode ⟨Tryz.prog, E.esc 33, n⟩ (ev Tryz.prog E n) (E.ps 33) n eLoop) fs = some (.ret, r) ∧ r.t 4 = .bool false ∧ r.S = S := fun fs ⟨q1, q2, q3, q4, q5, q6⟩ => by
        obtain ⟨⟨o, r⟩, r1, r2, r3⟩ := key fs ⟨0, by omega, q1, q2, q3, q4, q5, q6, by simp [sameL]⟩
        rcases r3 with ⟨_, r4⟩ | ⟨r4, r5, _⟩
        · rw [hb] at r4; cases r4
        · simp only at r4; subst r4; exact ⟨r, r1, r5, r2⟩
      obtain ⟨F, hF⟩ := skolem key2
      have hF1 := fun x h => (hF x h).1
      have hF2 := fun x h => (hF x h).2.1
      have hF3 := fun x h => (hF x h).2.2
      simp (disch := first | (simp [upd]; done) | omega | assumption) [AV.cells?, AV.isCell, el0, el1, el2, el3, cutC, bodyOf, Tryz.f33, E_esc, k24, c24, a24, k3, c3, a3, k2, c2, a2, k9, c9, a9, k22, c22, a22, fq0, fq1, fq2, fq3, fq4, fq5, sq22, bq3, bq2, bq9, bne, hlen, hlen', -AV.isCell, h0, h1, h2, h3, h4, h5z, hF1, hF2, hF3]
    · have key2 : ∀ fs : FS, (fs.t 2 = .loc n 2 1 0 ∧ fs.t 3 = .loc n 3 2 0 ∧ fs.b 2 = (1, [.int .i64 k, .str nm, .int .i64 a, .int .i64 lo, .int .i64 hi, .slice (embL ks) (tokOf tk)]) ∧ fs.b 3 = (2, [.int .i64 k', .str nm', .int .i64 a', .int .i64 lo', .int .i64 hi', .slice (embL ks') (tokOf tk')]) ∧ fs.t 5 = .int .i64 0 ∧ fs.S = S) →
          ∃ r, iter n (evCode ⟨Tryz.prog, E.esc 33, n⟩ (ev Tryz.prog E n) (E.ps 33) n eLoop) fs = some (.exit 0, r) ∧ r.S = S := fun fs ⟨q1, q2, q3, q4, q5, q6⟩ => by
        obtain ⟨⟨o, r⟩, r1, r2, r3⟩ := key fs ⟨0, by omega, q1, q2, q3, q4, q5, q6, by simp [sameL]⟩
        rcases r3 with ⟨r4, _⟩ | ⟨_, _, r4⟩
        · simp only at r4; subst r4; exact ⟨r, r1, r2⟩
        · rw [hb] at r4; cases r4
      obtain ⟨F, hF⟩ := skolem key2
      have hF1 := fun x h => (hF x h).1
      have hF3 := fun x h => (hF x h).2
      simp (disch := first | (simp [upd]; done) | omega | assumption) [AV.cells?, AV.isCell, el0, el1, el2, el3, cutC, bodyOf, Tryz.f33, E_esc, k24, c24, a24, k3, c3, a3, k2, c2, a2, k9, c9, a9, k22, c22, a22, fq0, fq1, fq2, fq3, fq4, fq5, sq22, bq3, bq2, bq9, bne, hlen, hlen', -AV.isCell, h0, h1, h2, h3, h4, h5z, hF1, hF3]
end Go.Proofs.YtcpoinfdnimanaaGreatDoor.PT
/- Are policies alike (the reference's), evaluated. No condition. -/
namespace Go.Proofs.YtcpoinfdnimanaaGreatDoor.PO
set_option linter.unusedVariables false
set_option linter.unusedSimpArgs false
open Go AE EX PT NF
set_option maxRecDepth 100000

noncomputable def pup_p0 : Code := cutC (bodyOf Tryz.f34) [0]
noncomputable def pup_p1 : Code := cutC (bodyOf Tryz.f34) [1, 0]
noncomputable def pup_p2 : Code := cutC (bodyOf Tryz.f34) [1, 1, 0, 0]
noncomputable def pup_L0 : Code := cutC (bodyOf Tryz.f34) [1, 1, 0, 1, 0, 0]
noncomputable def pup_p3 : Code := cutC (bodyOf Tryz.f34) [1, 1, 1]
theorem pup_b : Tryz.f34.body = some (.seq pup_p0 (.seq pup_p1 (.seq (.seq pup_p2 (.block 0 (.loop pup_L0))) pup_p3))) := rfl
/-- ahead of a round -/
def pup_I0 (n : Nat) (a b : List Up) (ta tb : Tok) (S0 : St) (i : Nat) (fs : FS) : Prop :=
  fs.t 0 = .slice (upL a) ta ∧ fs.t 1 = .slice (upL b) tb ∧ fs.t 5 = .int .i64 (i : Nat) ∧ fs.S = S0
theorem pup_go0 (n : Nat) (a b : List Up) (ta tb : Tok) (S0 : St) (hs : a.length ≤ 1048576) (hl : a.length = b.length) (hrec : ∀ (i : Nat) (hi : i < a.length), ev Tryz.prog E n 33 [a[i].to.emb, b[i].to.emb] S0 = some (.ret (.bool (a[i].to.same b[i].to)), S0)) (i : Nat) (hi : i < a.length) (q : (a[i].eqv b[i]) = true) (fs : FS) (h : pup_I0 n a b ta tb S0 i fs) :
    ∃ fs', (evCode ⟨Tryz.prog, E.esc 34, n⟩ (ev Tryz.prog E n) (E.ps 34) n pup_L0) fs = some (.norm, fs') ∧ pup_I0 n a b ta tb S0 (i + 1) fs' := by
  obtain ⟨tF, bF, cF, SF⟩ := fs
  obtain ⟨h1, h2, h3, h4⟩ := id h
  simp only at h1 h2 h3 h4
  subst h4
  have hiz : (i : Int) < (a.length : Nat) := by omega
  have hw : IntKind.i64.wrap ((i : Int) + 1) = (i : Int) + 1 := wrap64 _ (by omega)
  have hr := hrec i hi
  have hb : i < b.length := by omega
  have hxa := upL_get a hi
  have hxb := upL_get b hb
  generalize a[i] = x at *
  generalize b[i] = y at *
  obtain ⟨sa, na, ⟨k, nm, x, lo, hi2, tk, ks⟩⟩ := x
  obtain ⟨sb, nb, ⟨k', nm', x', lo', hi2', tk', ks'⟩⟩ := y
  simp only [Up.emb, X.cells] at hxa hxb
  simp only [X.emb] at hr
  simp only [Up.eqv] at q
  generalize X.same _ _ = c3 at *
  generalize hc1 : (sa == sb) = c1 at q
  generalize hc2 : (na == nb) = c2 at q
  rcases or3 c1 c2 c3 with rfl | ⟨rfl, rfl⟩ | ⟨rfl, rfl, rfl⟩ | ⟨rfl, rfl, rfl⟩ <;> first | (simp at q; done) | skip
  all_goals (
  refine ⟨_, by
    simp (disch := first | (simp only [List.length_append, List.length_cons, List.length_nil]; omega) | (simp [h1, h2, h3]; done) | assumption) [AV.cells?, AV.isCell, pup_L0, cutC, bodyOf, Tryz.f34, h1, h2, h3, hi, hiz, q, hr, hxa, hxb, upL_len, hb, hc1, hc2, bne]
    rfl, ?_⟩
  simp [pup_I0, upd, h1, h2, h3, hw])
theorem pup_stop0 (n : Nat) (a b : List Up) (ta tb : Tok) (S0 : St) (hs : a.length ≤ 1048576) (hl : a.length = b.length) (hrec : ∀ (i : Nat) (hi : i < a.length), ev Tryz.prog E n 33 [a[i].to.emb, b[i].to.emb] S0 = some (.ret (.bool (a[i].to.same b[i].to)), S0)) (i : Nat) (hi : i < a.length) (q : (a[i].eqv b[i]) = false) (fs : FS) (h : pup_I0 n a b ta tb S0 i fs) :
    ∃ fs', (evCode ⟨Tryz.prog, E.esc 34, n⟩ (ev Tryz.prog E n) (E.ps 34) n pup_L0) fs = some (.ret, fs') ∧ (fs'.t 4 = .bool false ∧ fs'.S = S0) := by
  obtain ⟨tF, bF, cF, SF⟩ := fs
  obtain ⟨h1, h2, h3, h4⟩ := id h
  simp only at h1 h2 h3 h4
  subst h4
  have hiz : (i : Int) < (a.length : Nat) := by omega
  have hw : IntKind.i64.wrap ((i : Int) + 1) = (i : Int) + 1 := wrap64 _ (by omega)
  have hr := hrec i hi
  have hb : i < b.length := by omega
  have hxa := upL_get a hi
  have hxb := upL_get b hb
  generalize a[i] = x at *
  generalize b[i] = y at *
  obtain ⟨sa, na, ⟨k, nm, x, lo, hi2, tk, ks⟩⟩ := x
  obtain ⟨sb, nb, ⟨k', nm', x', lo', hi2', tk', ks'⟩⟩ := y
  simp only [Up.emb, X.cells] at hxa hxb
  simp only [X.emb] at hr
  simp only [Up.eqv] at q
  generalize X.same _ _ = c3 at *
  generalize hc1 : (sa == sb) = c1 at q
  generalize hc2 : (na == nb) = c2 at q
  rcases or3 c1 c2 c3 with rfl | ⟨rfl, rfl⟩ | ⟨rfl, rfl, rfl⟩ | ⟨rfl, rfl, rfl⟩ <;> first | (simp at q; done) | skip
  all_goals (
  refine ⟨_, by
    simp (disch := first | (simp only [List.length_append, List.length_cons, List.length_nil]; omega) | (simp [h1, h2, h3]; done) | assumption) [AV.cells?, AV.isCell, pup_L0, cutC, bodyOf, Tryz.f34, h1, h2, h3, hi, hiz, q, hr, hxa, hxb, upL_len, hb, hc1, hc2, bne]
    rfl, ?_⟩
  simp [upd, h1, h2, h3, hw])
theorem pup_end0 (n : Nat) (a b : List Up) (ta tb : Tok) (S0 : St) (hs : a.length ≤ 1048576) (hl : a.length = b.length) (hrec : ∀ (i : Nat) (hi : i < a.length), ev Tryz.prog E n 33 [a[i].to.emb, b[i].to.emb] S0 = some (.ret (.bool (a[i].to.same b[i].to)), S0)) (fs : FS) (h : pup_I0 n a b ta tb S0 (a.length) fs) : ∃ fs', (evCode ⟨Tryz.prog, E.esc 34, n⟩ (ev Tryz.prog E n) (E.ps 34) n pup_L0) fs = some (.exit 0, fs') ∧ pup_I0 n a b ta tb S0 (a.length) fs' := by
  obtain ⟨tF, bF, cF, SF⟩ := fs
  obtain ⟨h1, h2, h3, h4⟩ := id h
  simp only at h1 h2 h3 h4
  subst h4
  refine ⟨_, by
    simp (disch := first | (simp only [List.length_append, List.length_cons, List.length_nil]; omega) | (simp; done) | assumption) [AV.cells?, AV.isCell, pup_L0, cutC, bodyOf, Tryz.f34, h1, h2, h3, upL_len]
    rfl, ?_⟩
  simp only [pup_I0, upd] at h ⊢
  simpa using h
theorem pup_all0 (n : Nat) (a b : List Up) (ta tb : Tok) (S0 : St) (hs : a.length ≤ 1048576) (hl : a.length = b.length) (hrec : ∀ (i : Nat) (hi : i < a.length), ev Tryz.prog E n 33 [a[i].to.emb, b[i].to.emb] S0 = some (.ret (.bool (a[i].to.same b[i].to)), S0)) (hn : a.length < n) (hq : ∀ (i : Nat) (hi : i < a.length), (a[i].eqv b[i]) = true) : ∃ F : FS → FS, (∀ fs, pup_I0 n a b ta tb S0 0 fs → iter n (evCode ⟨Tryz.prog, E.esc 34, n⟩ (ev Tryz.prog E n) (E.ps 34) n pup_L0) fs = some (.exit 0, F fs)) ∧ ∀ fs, pup_I0 n a b ta tb S0 0 fs → pup_I0 n a b ta tb S0 (a.length) (F fs) :=
  for_all (pup_I0 n a b ta tb S0) 0 (a.length) hn (fun i hi fs h => pup_go0 n a b ta tb S0 hs hl hrec i hi (hq i hi) fs h) (fun fs h => pup_end0 n a b ta tb S0 hs hl hrec fs h)
theorem pup_some0 (n : Nat) (a b : List Up) (ta tb : Tok) (S0 : St) (hs : a.length ≤ 1048576) (hl : a.length = b.length) (hrec : ∀ (i : Nat) (hi : i < a.length), ev Tryz.prog E n 33 [a[i].to.emb, b[i].to.emb] S0 = some (.ret (.bool (a[i].to.same b[i].to)), S0)) (j : Nat) (hj : j < a.length) (hn : j < n) (hq : ∀ (i : Nat) (hi : i < j), (a[i].eqv b[i]) = true) (q : (a[j].eqv b[j]) = false) : ∃ F : FS → FS, (∀ fs, pup_I0 n a b ta tb S0 0 fs → iter n (evCode ⟨Tryz.prog, E.esc 34, n⟩ (ev Tryz.prog E n) (E.ps 34) n pup_L0) fs = some (.ret, F fs)) ∧ ∀ fs, pup_I0 n a b ta tb S0 0 fs → ((F fs).t 4 = .bool false ∧ (F fs).S = S0) :=
  for_stop (pup_I0 n a b ta tb S0) (.ret) (fun fs => fs.t 4 = .bool false ∧ fs.S = S0) j hn (by simp) (fun i hi fs h => pup_go0 n a b ta tb S0 hs hl hrec i (by omega) (hq i hi) fs h) (fun fs h => pup_stop0 n a b ta tb S0 hs hl hrec j hj q fs h)
theorem ev_pup (n : Nat) (a b : List Up) (ta tb : Tok) (S : St) (hs : a.length ≤ 1048576) (hs' : b.length ≤ 1048576) (hn : a.length < n) (hrec : ∀ x ∈ a, ∀ y ∈ b, ev Tryz.prog E n 33 [x.to.emb, y.to.emb] S = some (.ret (.bool (x.to.same y.to)), S)) : ev Tryz.prog E (n + 1) 34 [.slice (upL a) ta, .slice (upL b) tb] S = some (.ret (.bool (eqvL Up.eqv a b)), S) := by
  rw [ev_enter (n := n) (show E.ok 34 = true from rfl) Tryz.func34 pup_b (Nat.le_of_ble_eq_true rfl) (by decide +kernel)]
  by_cases hl : a.length = b.length
  · have hl' : ((a.length : Int) != (b.length : Int)) = false := by simp; omega
    have hrec' := fun (i : Nat) (hi : i < a.length) => hrec a[i] (List.getElem_mem hi) b[i] (List.getElem_mem (by omega))
    cases q : eqvL Up.eqv a b
    · obtain ⟨j, hj, q1, q2⟩ := eqvL_none hl q
      obtain ⟨F, hF, hR⟩ := pup_some0 n a b ta tb S hs hl hrec' j hj (by omega) q1 q2
      simp only [pup_I0] at hF hR
      simp (disch := first | (simp [upd]; done) | omega | assumption) [AV.cells?, AV.isCell, pup_p0, pup_p1, pup_p2, pup_p3, cutC, bodyOf, Tryz.f34, upL_len, hl', hF, hR]
    · obtain ⟨F, hF, hR⟩ := pup_all0 n a b ta tb S hs hl hrec' hn (eqvL_get hl q)
      simp only [pup_I0] at hF hR
      simp (disch := first | (simp [upd]; done) | omega | assumption) [AV.cells?, AV.isCell, pup_p0, pup_p1, pup_p2, pup_p3, cutC, bodyOf, Tryz.f34, upL_len, hl', hF, hR]
  · have hl' : ((a.length : Int) != (b.length : Int)) = true := by simp; omega
    rw [eqvL_ne hl]
    simp (disch := first | (simp [upd]; done) | omega | assumption) [AV.cells?, AV.isCell, pup_p0, pup_p1, pup_p2, pup_p3, cutC, bodyOf, Tryz.f34, upL_len, hl']
noncomputable def pdu_p0 : Code := cutC (bodyOf Tryz.f35) [0]
noncomputable def pdu_p1 : Code := cutC (bodyOf Tryz.f35) [1, 0]
noncomputable def pdu_p2 : Code := cutC (bodyOf Tryz.f35) [1, 1, 0, 0]
noncomputable def pdu_L0 : Code := cutC (bodyOf Tryz.f35) [1, 1, 0, 1, 0, 0]
noncomputable def pdu_p3 : Code := cutC (bodyOf Tryz.f35) [1, 1, 1]
theorem pdu_b : Tryz.f35.body = some (.seq pdu_p0 (.seq pdu_p1 (.seq (.seq pdu_p2 (.block 0 (.loop pdu_L0))) pdu_p3))) := rfl
/-- ahead of a round -/
def pdu_I0 (n : Nat) (a b : List Du) (ta tb : Tok) (S0 : St) (i : Nat) (fs : FS) : Prop :=
  fs.t 0 = .slice (duL a) ta ∧ fs.t 1 = .slice (duL b) tb ∧ fs.t 5 = .int .i64 (i : Nat) ∧ fs.S = S0
theorem pdu_go0 (n : Nat) (a b : List Du) (ta tb : Tok) (S0 : St) (hs : a.length ≤ 1048576) (hl : a.length = b.length) (i : Nat) (hi : i < a.length) (q : (a[i].eqv b[i]) = true) (fs : FS) (h : pdu_I0 n a b ta tb S0 i fs) :
    ∃ fs', (evCode ⟨Tryz.prog, E.esc 35, n⟩ (ev Tryz.prog E n) (E.ps 35) n pdu_L0) fs = some (.norm, fs') ∧ pdu_I0 n a b ta tb S0 (i + 1) fs' := by
  obtain ⟨tF, bF, cF, SF⟩ := fs
  obtain ⟨h1, h2, h3, h4⟩ := id h
  simp only at h1 h2 h3 h4
  subst h4
  have hiz : (i : Int) < (a.length : Nat) := by omega
  have hw : IntKind.i64.wrap ((i : Int) + 1) = (i : Int) + 1 := wrap64 _ (by omega)
  have hb : i < b.length := by omega
  have hxa := duL_get a hi
  have hxb := duL_get b hb
  obtain ⟨e1, e2⟩ := evB2_agg (kc := false) (eq_du a[i] b[i])
  rw [q] at e1 e2
  generalize a[i] = x at *
  generalize b[i] = y at *
  simp only [Du.emb] at hxa hxb
  all_goals (
  refine ⟨_, by
    simp (disch := first | (simp only [List.length_append, List.length_cons, List.length_nil]; omega) | (simp [h1, h2, h3]; done) | assumption) [AV.cells?, AV.isCell, pdu_L0, cutC, bodyOf, Tryz.f35, h1, h2, h3, hi, hiz, q, hxa, hxb, duL_len, hb, e1, e2]
    rfl, ?_⟩
  simp [pdu_I0, upd, h1, h2, h3, hw])
theorem pdu_stop0 (n : Nat) (a b : List Du) (ta tb : Tok) (S0 : St) (hs : a.length ≤ 1048576) (hl : a.length = b.length) (i : Nat) (hi : i < a.length) (q : (a[i].eqv b[i]) = false) (fs : FS) (h : pdu_I0 n a b ta tb S0 i fs) :
    ∃ fs', (evCode ⟨Tryz.prog, E.esc 35, n⟩ (ev Tryz.prog E n) (E.ps 35) n pdu_L0) fs = some (.ret, fs') ∧ (fs'.t 4 = .bool false ∧ fs'.S = S0) := by
  obtain ⟨tF, bF, cF, SF⟩ := fs
  obtain ⟨h1, h2, h3, h4⟩ := id h
  simp only at h1 h2 h3 h4
  subst h4
  have hiz : (i : Int) < (a.length : Nat) := by omega
  have hw : IntKind.i64.wrap ((i : Int) + 1) = (i : Int) + 1 := wrap64 _ (by omega)
  have hb : i < b.length := by omega
  have hxa := duL_get a hi
  have hxb := duL_get b hb
  obtain ⟨e1, e2⟩ := evB2_agg (kc := false) (eq_du a[i] b[i])
  rw [q] at e1 e2
  generalize a[i] = x at *
  generalize b[i] = y at *
  simp only [Du.emb] at hxa hxb
  all_goals (
  refine ⟨_, by
    simp (disch := first | (simp only [List.length_append, List.length_cons, List.length_nil]; omega) | (simp [h1, h2, h3]; done) | assumption) [AV.cells?, AV.isCell, pdu_L0, cutC, bodyOf, Tryz.f35, h1, h2, h3, hi, hiz, q, hxa, hxb, duL_len, hb, e1, e2]
    rfl, ?_⟩
  simp [upd, h1, h2, h3, hw])
theorem pdu_end0 (n : Nat) (a b : List Du) (ta tb : Tok) (S0 : St) (hs : a.length ≤ 1048576) (hl : a.length = b.length) (fs : FS) (h : pdu_I0 n a b ta tb S0 (a.length) fs) : ∃ fs', (evCode ⟨Tryz.prog, E.esc 35, n⟩ (ev Tryz.prog E n) (E.ps 35) n pdu_L0) fs = some (.exit 0, fs') ∧ pdu_I0 n a b ta tb S0 (a.length) fs' := by
  obtain ⟨tF, bF, cF, SF⟩ := fs
  obtain ⟨h1, h2, h3, h4⟩ := id h
  simp only at h1 h2 h3 h4
  subst h4
  refine ⟨_, by
    simp (disch := first | (simp only [List.length_append, List.length_cons, List.length_nil]; omega) | (simp; done) | assumption) [AV.cells?, AV.isCell, pdu_L0, cutC, bodyOf, Tryz.f35, h1, h2, h3, duL_len]
    rfl, ?_⟩
  simp only [pdu_I0, upd] at h ⊢
  simpa using h
theorem pdu_all0 (n : Nat) (a b : List Du) (ta tb : Tok) (S0 : St) (hs : a.length ≤ 1048576) (hl : a.length = b.length) (hn : a.length < n) (hq : ∀ (i : Nat) (hi : i < a.length), (a[i].eqv b[i]) = true) : ∃ F : FS → FS, (∀ fs, pdu_I0 n a b ta tb S0 0 fs → iter n (evCode ⟨Tryz.prog, E.esc 35, n⟩ (ev Tryz.prog E n) (E.ps 35) n pdu_L0) fs = some (.exit 0, F fs)) ∧ ∀ fs, pdu_I0 n a b ta tb S0 0 fs → pdu_I0 n a b ta tb S0 (a.length) (F fs) :=
  for_all (pdu_I0 n a b ta tb S0) 0 (a.length) hn (fun i hi fs h => pdu_go0 n a b ta tb S0 hs hl i hi (hq i hi) fs h) (fun fs h => pdu_end0 n a b ta tb S0 hs hl fs h)
theorem pdu_some0 (n : Nat) (a b : List Du) (ta tb : Tok) (S0 : St) (hs : a.length ≤ 1048576) (hl : a.length = b.length) (j : Nat) (hj : j < a.length) (hn : j < n) (hq : ∀ (i : Nat) (hi : i < j), (a[i].eqv b[i]) = true) (q : (a[j].eqv b[j]) = false) : ∃ F : FS → FS, (∀ fs, pdu_I0 n a b ta tb S0 0 fs → iter n (evCode ⟨Tryz.prog, E.esc 35, n⟩ (ev Tryz.prog E n) (E.ps 35) n pdu_L0) fs = some (.ret, F fs)) ∧ ∀ fs, pdu_I0 n a b ta tb S0 0 fs → ((F fs).t 4 = .bool false ∧ (F fs).S = S0) :=
  for_stop (pdu_I0 n a b ta tb S0) (.ret) (fun fs => fs.t 4 = .bool false ∧ fs.S = S0) j hn (by simp) (fun i hi fs h => pdu_go0 n a b ta tb S0 hs hl i (by omega) (hq i hi) fs h) (fun fs h => pdu_stop0 n a b ta tb S0 hs hl j hj q fs h)
theorem ev_pdu (n : Nat) (a b : List Du) (ta tb : Tok) (S : St) (hs : a.length ≤ 1048576) (hs' : b.length ≤ 1048576) (hn : a.length < n) : ev Tryz.prog E (n + 1) 35 [.slice (duL a) ta, .slice (duL b) tb] S = some (.ret (.bool (eqvL Du.eqv a b)), S) := by
  rw [ev_enter (n := n) (show E.ok 35 = true from rfl) Tryz.func35 pdu_b (Nat.le_of_ble_eq_true rfl) (by decide +kernel)]
  by_cases hl : a.length = b.length
  · have hl' : ((a.length : Int) != (b.length : Int)) = false := by simp; omega
    cases q : eqvL Du.eqv a b
    · obtain ⟨j, hj, q1, q2⟩ := eqvL_none hl q
      obtain ⟨F, hF, hR⟩ := pdu_some0 n a b ta tb S hs hl j hj (by omega) q1 q2
      simp only [pdu_I0] at hF hR
      simp (disch := first | (simp [upd]; done) | omega | assumption) [AV.cells?, AV.isCell, pdu_p0, pdu_p1, pdu_p2, pdu_p3, cutC, bodyOf, Tryz.f35, duL_len, hl', hF, hR]
    · obtain ⟨F, hF, hR⟩ := pdu_all0 n a b ta tb S hs hl hn (eqvL_get hl q)
      simp only [pdu_I0] at hF hR
      simp (disch := first | (simp [upd]; done) | omega | assumption) [AV.cells?, AV.isCell, pdu_p0, pdu_p1, pdu_p2, pdu_p3, cutC, bodyOf, Tryz.f35, duL_len, hl', hF, hR]
  · have hl' : ((a.length : Int) != (b.length : Int)) = true := by simp; omega
    rw [eqvL_ne hl]
    simp (disch := first | (simp [upd]; done) | omega | assumption) [AV.cells?, AV.isCell, pdu_p0, pdu_p1, pdu_p2, pdu_p3, cutC, bodyOf, Tryz.f35, duL_len, hl']
noncomputable def pdc_p0 : Code := cutC (bodyOf Tryz.f39) [0]
noncomputable def pdc_p1 : Code := cutC (bodyOf Tryz.f39) [1, 0]
noncomputable def pdc_p2 : Code := cutC (bodyOf Tryz.f39) [1, 1, 0, 0]
noncomputable def pdc_L0 : Code := cutC (bodyOf Tryz.f39) [1, 1, 0, 1, 0, 0]
noncomputable def pdc_p3 : Code := cutC (bodyOf Tryz.f39) [1, 1, 1]
theorem pdc_b : Tryz.f39.body = some (.seq pdc_p0 (.seq pdc_p1 (.seq (.seq pdc_p2 (.block 0 (.loop pdc_L0))) pdc_p3))) := rfl
/-- ahead of a round -/
def pdc_I0 (n : Nat) (a b : List Dc) (ta tb : Tok) (S0 : St) (i : Nat) (fs : FS) : Prop :=
  fs.t 0 = .slice (dcL a) ta ∧ fs.t 1 = .slice (dcL b) tb ∧ fs.t 5 = .int .i64 (i : Nat) ∧ fs.S = S0
theorem pdc_go0 (n : Nat) (a b : List Dc) (ta tb : Tok) (S0 : St) (hs : a.length ≤ 1048576) (hl : a.length = b.length) (i : Nat) (hi : i < a.length) (q : (a[i].eqv b[i]) = true) (fs : FS) (h : pdc_I0 n a b ta tb S0 i fs) :
    ∃ fs', (evCode ⟨Tryz.prog, E.esc 39, n⟩ (ev Tryz.prog E n) (E.ps 39) n pdc_L0) fs = some (.norm, fs') ∧ pdc_I0 n a b ta tb S0 (i + 1) fs' := by
  obtain ⟨tF, bF, cF, SF⟩ := fs
  obtain ⟨h1, h2, h3, h4⟩ := id h
  simp only at h1 h2 h3 h4
  subst h4
  have hiz : (i : Int) < (a.length : Nat) := by omega
  have hw : IntKind.i64.wrap ((i : Int) + 1) = (i : Int) + 1 := wrap64 _ (by omega)
  have hb : i < b.length := by omega
  have hxa := dcL_get a hi
  have hxb := dcL_get b hb
  obtain ⟨e1, e2⟩ := evB2_agg (kc := false) (eq_dc a[i] b[i])
  rw [q] at e1 e2
  generalize a[i] = x at *
  generalize b[i] = y at *
  simp only [Dc.emb] at hxa hxb
  all_goals (
  refine ⟨_, by
    simp (disch := first | (simp only [List.length_append, List.length_cons, List.length_nil]; omega) | (simp [h1, h2, h3]; done) | assumption) [AV.cells?, AV.isCell, pdc_L0, cutC, bodyOf, Tryz.f39, h1, h2, h3, hi, hiz, q, hxa, hxb, dcL_len, hb, e1, e2]
    rfl, ?_⟩
  simp [pdc_I0, upd, h1, h2, h3, hw])
theorem pdc_stop0 (n : Nat) (a b : List Dc) (ta tb : Tok) (S0 : St) (hs : a.length ≤ 1048576) (hl : a.length = b.length) (i : Nat) (hi : i < a.length) (q : (a[i].eqv b[i]) = false) (fs : FS) (h : pdc_I0 n a b ta tb S0 i fs) :
    ∃ fs', (evCode ⟨Tryz.prog, E.esc 39, n⟩ (ev Tryz.prog E n) (E.ps 39) n pdc_L0) fs = some (.ret, fs') ∧ (fs'.t 4 = .bool false ∧ fs'.S = S0) := by
  obtain ⟨tF, bF, cF, SF⟩ := fs
  obtain ⟨h1, h2, h3, h4⟩ := id h
  simp only at h1 h2 h3 h4
  subst h4
  have hiz : (i : Int) < (a.length : Nat) := by omega
  have hw : IntKind.i64.wrap ((i : Int) + 1) = (i : Int) + 1 := wrap64 _ (by omega)
  have hb : i < b.length := by omega
  have hxa := dcL_get a hi
  have hxb := dcL_get b hb
  obtain ⟨e1, e2⟩ := evB2_agg (kc := false) (eq_dc a[i] b[i])
  rw [q] at e1 e2
  generalize a[i] = x at *
  generalize b[i] = y at *
  simp only [Dc.emb] at hxa hxb
  all_goals (
  refine ⟨_, by
    simp (disch := first | (simp only [List.length_append, List.length_cons, List.length_nil]; omega) | (simp [h1, h2, h3]; done) | assumption) [AV.cells?, AV.isCell, pdc_L0, cutC, bodyOf, Tryz.f39, h1, h2, h3, hi, hiz, q, hxa, hxb, dcL_len, hb, e1, e2]
    rfl, ?_⟩
  simp [upd, h1, h2, h3, hw])
theorem pdc_end0 (n : Nat) (a b : List Dc) (ta tb : Tok) (S0 : St) (hs : a.length ≤ 1048576) (hl : a.length = b.length) (fs : FS) (h : pdc_I0 n a b ta tb S0 (a.length) fs) : ∃ fs', (evCode ⟨Tryz.prog, E.esc 39, n⟩ (ev Tryz.prog E n) (E.ps 39) n pdc_L0) fs = some (.exit 0, fs') ∧ pdc_I0 n a b ta tb S0 (a.length) fs' := by
  obtain ⟨tF, bF, cF, SF⟩ := fs
  obtain ⟨h1, h2, h3, h4⟩ := id h
  simp only at h1 h2 h3 h4
  subst h4
  refine ⟨_, by
    simp (disch := first | (simp only [List.length_append, List.length_cons, List.length_nil]; omega) | (simp; done) | assumption) [AV.cells?, AV.isCell, pdc_L0, cutC, bodyOf, Tryz.f39, h1, h2, h3, dcL_len]
    rfl, ?_⟩
  simp only [pdc_I0, upd] at h ⊢
  simpa using h
theorem pdc_all0 (n : Nat) (a b : List Dc) (ta tb : Tok) (S0 : St) (hs : a.length ≤ 1048576) (hl : a.length = b.length) (hn : a.length < n) (hq : ∀ (i : Nat) (hi : i < a.length), (a[i].eqv b[i]) = true) : ∃ F : FS → FS, (∀ fs, pdc_I0 n a b ta tb S0 0 fs → iter n (evCode ⟨Tryz.prog, E.esc 39, n⟩ (ev Tryz.prog E n) (E.ps 39) n pdc_L0) fs = some (.exit 0, F fs)) ∧ ∀ fs, pdc_I0 n a b ta tb S0 0 fs → pdc_I0 n a b ta tb S0 (a.length) (F fs) :=
  for_all (pdc_I0 n a b ta tb S0) 0 (a.length) hn (fun i hi fs h => pdc_go0 n a b ta tb S0 hs hl i hi (hq i hi) fs h) (fun fs h => pdc_end0 n a b ta tb S0 hs hl fs h)
theorem pdc_some0 (n : Nat) (a b : List Dc) (ta tb : Tok) (S0 : St) (hs : a.length ≤ 1048576) (hl : a.length = b.length) (j : Nat) (hj : j < a.length) (hn : j < n) (hq : ∀ (i : Nat) (hi : i < j), (a[i].eqv b[i]) = true) (q : (a[j].eqv b[j]) = false) : ∃ F : FS → FS, (∀ fs, pdc_I0 n a b ta tb S0 0 fs → iter n (evCode ⟨Tryz.prog, E.esc 39, n⟩ (ev Tryz.prog E n) (E.ps 39) n pdc_L0) fs = some (.ret, F fs)) ∧ ∀ fs, pdc_I0 n a b ta tb S0 0 fs → ((F fs).t 4 = .bool false ∧ (F fs).S = S0) :=
  for_stop (pdc_I0 n a b ta tb S0) (.ret) (fun fs => fs.t 4 = .bool false ∧ fs.S = S0) j hn (by simp) (fun i hi fs h => pdc_go0 n a b ta tb S0 hs hl i (by omega) (hq i hi) fs h) (fun fs h => pdc_stop0 n a b ta tb S0 hs hl j hj q fs h)
theorem ev_pdc (n : Nat) (a b : List Dc) (ta tb : Tok) (S : St) (hs : a.length ≤ 1048576) (hs' : b.length ≤ 1048576) (hn : a.length < n) : ev Tryz.prog E (n + 1) 39 [.slice (dcL a) ta, .slice (dcL b) tb] S = some (.ret (.bool (eqvL Dc.eqv a b)), S) := by
  rw [ev_enter (n := n) (show E.ok 39 = true from rfl) Tryz.func39 pdc_b (Nat.le_of_ble_eq_true rfl) (by decide +kernel)]
  by_cases hl : a.length = b.length
  · have hl' : ((a.length : Int) != (b.length : Int)) = false := by simp; omega
    cases q : eqvL Dc.eqv a b
    · obtain ⟨j, hj, q1, q2⟩ := eqvL_none hl q
      obtain ⟨F, hF, hR⟩ := pdc_some0 n a b ta tb S hs hl j hj (by omega) q1 q2
      simp only [pdc_I0] at hF hR
      simp (disch := first | (simp [upd]; done) | omega | assumption) [AV.cells?, AV.isCell, pdc_p0, pdc_p1, pdc_p2, pdc_p3, cutC, bodyOf, Tryz.f39, dcL_len, hl', hF, hR]
    · obtain ⟨F, hF, hR⟩ := pdc_all0 n a b ta tb S hs hl hn (eqvL_get hl q)
      simp only [pdc_I0] at hF hR
      simp (disch := first | (simp [upd]; done) | omega | assumption) [AV.cells?, AV.isCell, pdc_p0, pdc_p1, pdc_p2, pdc_p3, cutC, bodyOf, Tryz.f39, dcL_len, hl', hF, hR]
  · have hl' : ((a.length : Int) != (b.length : Int)) = true := by simp; omega
    rw [eqvL_ne hl]
    simp (disch := first | (simp [upd]; done) | omega | assumption) [AV.cells?, AV.isCell, pdc_p0, pdc_p1, pdc_p2, pdc_p3, cutC, bodyOf, Tryz.f39, dcL_len, hl']
theorem ev_pups (n m : Nat) (a b : List Up) (ta tb : Tok) (S : St) (ha : upsSize a ≤ m) (hb : upsSize b ≤ 1048576) (hm : m ≤ 1048576) (hn : m + 2 ≤ n) :
    ev Tryz.prog E (n + 1) 34 [.slice (upL a) ta, .slice (upL b) tb] S = some (.ret (.bool (eqvL Up.eqv a b)), S) := by
  have h1 := ups_len a
  have h2 := ups_len b
  refine ev_pup n a b ta tb S (by omega) (by omega) (by omega) fun x hx y hy => ?_
  have h3 := ups_mem hx
  have h4 := ups_mem hy
  exact ev_same _ x.to y.to (Nat.le_refl _) (by omega) (by omega) n (by omega) S
theorem and8 (a b c d e f g : Bool) : a = false ∨ (a = true ∧ b = false) ∨ (a = true ∧ b = true ∧ c = false) ∨ (a = true ∧ b = true ∧ c = true ∧ d = false) ∨ (a = true ∧ b = true ∧ c = true ∧ d = true ∧ e = false) ∨ (a = true ∧ b = true ∧ c = true ∧ d = true ∧ e = true ∧ f = false) ∨ (a = true ∧ b = true ∧ c = true ∧ d = true ∧ e = true ∧ f = true) := by
  cases a <;> cases b <;> cases c <;> cases d <;> cases e <;> cases f <;> simp
theorem ev_Right (n : Nat) (a b : Rt) (ha : a.size ≤ 1048576) (hb : b.size ≤ 1048576) (hn : a.size + 4 ≤ n) (S : St) : ev Tryz.prog E (n + 1) 13 [a.emb, b.emb] S = some (.ret (.bool (a.eqv b)), S) := by
  obtain ⟨n, rfl⟩ : ∃ k, n = k + 1 := ⟨n - 1, by omega⟩
  obtain ⟨na, pa, oa, ⟨ba, tba⟩, ⟨da, tda⟩, ⟨aa, taa⟩, ⟨ua, tua⟩⟩ := a
  obtain ⟨nb, pb, ob, ⟨bb, tbb⟩, ⟨db, tdb⟩, ⟨ab, tab⟩, ⟨ub, tub⟩⟩ := b
  simp only [Rt.size] at ha hb hn
  have e1 := ev_pups n (upsSize ba) ba bb (tokOf tba) (tokOf tbb) S (Nat.le_refl _) (by omega) (by omega) (by omega)
  have e2 := ev_pups n (upsSize da) da db (tokOf tda) (tokOf tdb) S (Nat.le_refl _) (by omega) (by omega) (by omega)
  have e3 := ev_pups n (upsSize aa) aa ab (tokOf taa) (tokOf tab) S (Nat.le_refl _) (by omega) (by omega) (by omega)
  have e4 := ev_pdu n ua ub (tokOf tua) (tokOf tub) S (by omega) (by omega) (by omega)
  have e5 := ev_same _ pa pb (Nat.le_refl _) (by omega) (by omega) (n + 1) (by omega) S
  have e6 := ev_same _ oa ob (Nat.le_refl _) (by omega) (by omega) (n + 1) (by omega) S
  obtain ⟨k1, m1, x1, l1, u1, t1, s1⟩ := pa
  obtain ⟨k2, m2, x2, l2, u2, t2, s2⟩ := pb
  obtain ⟨k3, m3, x3, l3, u3, t3, s3⟩ := oa
  obtain ⟨k4, m4, x4, l4, u4, t4, s4⟩ := ob
  simp only [X.emb] at e5 e6
  simp only [Rt.emb, Rt.cells, X.cells, Rt.eqv, List.cons_append, List.nil_append]
  generalize X.same (.mk k1 m1 x1 l1 u1 t1 s1) (.mk k2 m2 x2 l2 u2 t2 s2) = q1 at *
  generalize X.same (.mk k3 m3 x3 l3 u3 t3 s3) (.mk k4 m4 x4 l4 u4 t4 s4) = q2 at *
  generalize eqvL Up.eqv ba bb = q3 at *
  generalize eqvL Up.eqv da db = q4 at *
  generalize eqvL Up.eqv aa ab = q5 at *
  generalize eqvL Du.eqv ua ub = q6 at *
  clear ha hb hn
  rw [ev_enter (n := n + 1) (show E.ok 13 = true from rfl) Tryz.func13 (fn := Tryz.f13) rfl (Nat.le_of_ble_eq_true rfl) (by decide +kernel)]
  generalize hnm : (na == nb) = q0
  rcases and8 q0 q1 q2 q3 q4 q5 q6 with rfl | ⟨rfl, rfl⟩ | ⟨rfl, rfl, rfl⟩ | ⟨rfl, rfl, rfl, rfl⟩ | ⟨rfl, rfl, rfl, rfl, rfl⟩ | ⟨rfl, rfl, rfl, rfl, rfl, rfl⟩ | ⟨rfl, rfl, rfl, rfl, rfl, rfl⟩ <;>
    simp (disch := first | (simp only [List.length_append, List.length_cons, List.length_nil]; omega) | (simp; done) | assumption) [AV.cells?, AV.isCell, Tryz.f13, hnm, e1, e2, e3, e4, e5, e6]

noncomputable def ppl_p0 : Code := cutC (bodyOf Tryz.f15) [0]
noncomputable def ppl_p1 : Code := cutC (bodyOf Tryz.f15) [1, 0]
noncomputable def ppl_p2 : Code := cutC (bodyOf Tryz.f15) [1, 1, 0, 0]
noncomputable def ppl_L0 : Code := cutC (bodyOf Tryz.f15) [1, 1, 0, 1, 0, 0]
noncomputable def ppl_p3 : Code := cutC (bodyOf Tryz.f15) [1, 1, 1]
theorem ppl_b : Tryz.f15.body = some (.seq ppl_p0 (.seq ppl_p1 (.seq (.seq ppl_p2 (.block 0 (.loop ppl_L0))) ppl_p3))) := rfl
/-- ahead of a round -/
def ppl_I0 (n : Nat) (a b : List Rt) (ta tb : Tok) (da db : AV) (S0 : St) (i : Nat) (fs : FS) : Prop :=
  fs.t 2 = .loc n 2 1 0 ∧ fs.b 2 = (1, [da, .slice (rtL a) ta]) ∧ fs.t 3 = .loc n 3 2 0 ∧ fs.b 3 = (2, [db, .slice (rtL b) tb]) ∧ fs.t 5 = .int .i64 (i : Nat) ∧ fs.S = S0
theorem ppl_go0 (n : Nat) (a b : List Rt) (ta tb : Tok) (da db : AV) (S0 : St) (hs : a.length ≤ 1048576) (hl : a.length = b.length) (hrec : ∀ (i : Nat) (hi : i < a.length), ev Tryz.prog E n 13 [a[i].emb, b[i].emb] S0 = some (.ret (.bool (a[i].eqv b[i])), S0)) (i : Nat) (hi : i < a.length) (q : (a[i].eqv b[i]) = true) (fs : FS) (h : ppl_I0 n a b ta tb da db S0 i fs) :
    ∃ fs', (evCode ⟨Tryz.prog, E.esc 15, n⟩ (ev Tryz.prog E n) (E.ps 15) n ppl_L0) fs = some (.norm, fs') ∧ ppl_I0 n a b ta tb da db S0 (i + 1) fs' := by
  obtain ⟨tF, bF, cF, SF⟩ := fs
  obtain ⟨h1, h2, h3, h4, h5, h6⟩ := id h
  simp only at h1 h2 h3 h4 h5 h6
  subst h6
  have hiz : (i : Int) < (a.length : Nat) := by omega
  have hw : IntKind.i64.wrap ((i : Int) + 1) = (i : Int) + 1 := wrap64 _ (by omega)
  have hr := hrec i hi
  rw [q] at hr
  have hb : i < b.length := by omega
  have hxa := rtL_get a hi
  have hxb := rtL_get b hb
  generalize a[i] = x at *
  generalize b[i] = y at *
  obtain ⟨na, ⟨k1, m1, x1, l1, u1, t1, s1⟩, ⟨k2, m2, x2, l2, u2, t2, s2⟩, ⟨ba, tba⟩, ⟨da', tda⟩, ⟨aa, taa⟩, ⟨ua, tua⟩⟩ := x
  obtain ⟨nb, ⟨k3, m3, x3, l3, u3, t3, s3⟩, ⟨k4, m4, x4, l4, u4, t4, s4⟩, ⟨bb, tbb⟩, ⟨db', tdb⟩, ⟨ab, tab⟩, ⟨ub, tub⟩⟩ := y
  simp only [Rt.emb, Rt.cells, X.cells, List.cons_append, List.nil_append] at hxa hxb hr
  all_goals (
  refine ⟨_, by
    simp (disch := first | (simp only [List.length_append, List.length_cons, List.length_nil]; omega) | (simp [h1, h2, h3, h4, h5]; done) | assumption) [AV.cells?, AV.isCell, ppl_L0, cutC, bodyOf, Tryz.f15, h1, h2, h3, h4, h5, hi, hiz, q, hr, hxa, hxb, rtL_len, hb]
    rfl, ?_⟩
  simp [ppl_I0, upd, h1, h2, h3, h4, h5, hw])
theorem ppl_stop0 (n : Nat) (a b : List Rt) (ta tb : Tok) (da db : AV) (S0 : St) (hs : a.length ≤ 1048576) (hl : a.length = b.length) (hrec : ∀ (i : Nat) (hi : i < a.length), ev Tryz.prog E n 13 [a[i].emb, b[i].emb] S0 = some (.ret (.bool (a[i].eqv b[i])), S0)) (i : Nat) (hi : i < a.length) (q : (a[i].eqv b[i]) = false) (fs : FS) (h : ppl_I0 n a b ta tb da db S0 i fs) :
    ∃ fs', (evCode ⟨Tryz.prog, E.esc 15, n⟩ (ev Tryz.prog E n) (E.ps 15) n ppl_L0) fs = some (.ret, fs') ∧ (fs'.t 4 = .bool false ∧ fs'.S = S0) := by
  obtain ⟨tF, bF, cF, SF⟩ := fs
  obtain ⟨h1, h2, h3, h4, h5, h6⟩ := id h
  simp only at h1 h2 h3 h4 h5 h6
  subst h6
  have hiz : (i : Int) < (a.length : Nat) := by omega
  have hw : IntKind.i64.wrap ((i : Int) + 1) = (i : Int) + 1 := wrap64 _ (by omega)
  have hr := hrec i hi
  rw [q] at hr
  have hb : i < b.length := by omega
  have hxa := rtL_get a hi
  have hxb := rtL_get b hb
  generalize a[i] = x at *
  generalize b[i] = y at *
  obtain ⟨na, ⟨k1, m1, x1, l1, u1, t1, s1⟩, ⟨k2, m2, x2, l2, u2, t2, s2⟩, ⟨ba, tba⟩, ⟨da', tda⟩, ⟨aa, taa⟩, ⟨ua, tua⟩⟩ := x
  obtain ⟨nb, ⟨k3, m3, x3, l3, u3, t3, s3⟩, ⟨k4, m4, x4, l4, u4, t4, s4⟩, ⟨bb, tbb⟩, ⟨db', tdb⟩, ⟨ab, tab⟩, ⟨ub, tub⟩⟩ := y
  simp only [Rt.emb, Rt.cells, X.cells, List.cons_append, List.nil_append] at hxa hxb hr
  all_goals (
  refine ⟨_, by
    simp (disch := first | (simp only [List.length_append, List.length_cons, List.length_nil]; omega) | (simp [h1, h2, h3, h4, h5]; done) | assumption) [AV.cells?, AV.isCell, ppl_L0, cutC, bodyOf, Tryz.f15, h1, h2, h3, h4, h5, hi, hiz, q, hr, hxa, hxb, rtL_len, hb]
    rfl, ?_⟩
  simp [upd, h1, h2, h3, h4, h5, hw])
theorem ppl_end0 (n : Nat) (a b : List Rt) (ta tb : Tok) (da db : AV) (S0 : St) (hs : a.length ≤ 1048576) (hl : a.length = b.length) (hrec : ∀ (i : Nat) (hi : i < a.length), ev Tryz.prog E n 13 [a[i].emb, b[i].emb] S0 = some (.ret (.bool (a[i].eqv b[i])), S0)) (fs : FS) (h : ppl_I0 n a b ta tb da db S0 (a.length) fs) : ∃ fs', (evCode ⟨Tryz.prog, E.esc 15, n⟩ (ev Tryz.prog E n) (E.ps 15) n ppl_L0) fs = some (.exit 0, fs') ∧ ppl_I0 n a b ta tb da db S0 (a.length) fs' := by
  obtain ⟨tF, bF, cF, SF⟩ := fs
  obtain ⟨h1, h2, h3, h4, h5, h6⟩ := id h
  simp only at h1 h2 h3 h4 h5 h6
  subst h6
  refine ⟨_, by
    simp (disch := first | (simp only [List.length_append, List.length_cons, List.length_nil]; omega) | (simp; done) | assumption) [AV.cells?, AV.isCell, ppl_L0, cutC, bodyOf, Tryz.f15, h1, h2, h3, h4, h5, rtL_len]
    rfl, ?_⟩
  simp only [ppl_I0, upd] at h ⊢
  simpa using h
theorem ppl_all0 (n : Nat) (a b : List Rt) (ta tb : Tok) (da db : AV) (S0 : St) (hs : a.length ≤ 1048576) (hl : a.length = b.length) (hrec : ∀ (i : Nat) (hi : i < a.length), ev Tryz.prog E n 13 [a[i].emb, b[i].emb] S0 = some (.ret (.bool (a[i].eqv b[i])), S0)) (hn : a.length < n) (hq : ∀ (i : Nat) (hi : i < a.length), (a[i].eqv b[i]) = true) : ∃ F : FS → FS, (∀ fs, ppl_I0 n a b ta tb da db S0 0 fs → iter n (evCode ⟨Tryz.prog, E.esc 15, n⟩ (ev Tryz.prog E n) (E.ps 15) n ppl_L0) fs = some (.exit 0, F fs)) ∧ ∀ fs, ppl_I0 n a b ta tb da db S0 0 fs → ppl_I0 n a b ta tb da db S0 (a.length) (F fs) :=
  for_all (ppl_I0 n a b ta tb da db S0) 0 (a.length) hn (fun i hi fs h => ppl_go0 n a b ta tb da db S0 hs hl hrec i hi (hq i hi) fs h) (fun fs h => ppl_end0 n a b ta tb da db S0 hs hl hrec fs h)
theorem ppl_some0 (n : Nat) (a b : List Rt) (ta tb : Tok) (da db : AV) (S0 : St) (hs : a.length ≤ 1048576) (hl : a.length = b.length) (hrec : ∀ (i : Nat) (hi : i < a.length), ev Tryz.prog E n 13 [a[i].emb, b[i].emb] S0 = some (.ret (.bool (a[i].eqv b[i])), S0)) (j : Nat) (hj : j < a.length) (hn : j < n) (hq : ∀ (i : Nat) (hi : i < j), (a[i].eqv b[i]) = true) (q : (a[j].eqv b[j]) = false) : ∃ F : FS → FS, (∀ fs, ppl_I0 n a b ta tb da db S0 0 fs → iter n (evCode ⟨Tryz.prog, E.esc 15, n⟩ (ev Tryz.prog E n) (E.ps 15) n ppl_L0) fs = some (.ret, F fs)) ∧ ∀ fs, ppl_I0 n a b ta tb da db S0 0 fs → ((F fs).t 4 = .bool false ∧ (F fs).S = S0) :=
  for_stop (ppl_I0 n a b ta tb da db S0) (.ret) (fun fs => fs.t 4 = .bool false ∧ fs.S = S0) j hn (by simp) (fun i hi fs h => ppl_go0 n a b ta tb da db S0 hs hl hrec i (by omega) (hq i hi) fs h) (fun fs h => ppl_stop0 n a b ta tb da db S0 hs hl hrec j hj q fs h)
theorem ev_Policy (n : Nat) (a b : Pl) (ha : a.size ≤ 1048576) (hb : b.size ≤ 1048576) (hn : a.size + 6 ≤ n) (S : St) : ev Tryz.prog E (n + 1) 15 [a.emb, b.emb] S = some (.ret (.bool (a.eqv b)), S) := by
  obtain ⟨n, rfl⟩ : ∃ k, n = k + 1 := ⟨n - 1, by omega⟩
  obtain ⟨⟨da, tda⟩, ⟨ra, tra⟩⟩ := a
  obtain ⟨⟨db, tdb⟩, ⟨rb, trb⟩⟩ := b
  simp only [Pl.size] at ha hb hn
  have l1 := dcs_len da
  have l2 := dcs_len db
  have l3 := rts_len ra
  have l4 := rts_len rb
  have e1 := ev_pdc n da db (tokOf tda) (tokOf tdb) S (by omega) (by omega) (by omega)
  have hrec : ∀ x ∈ ra, ∀ y ∈ rb, ev Tryz.prog E (n + 1) 13 [x.emb, y.emb] S = some (.ret (.bool (x.eqv y)), S) := fun x hx y hy => by
    have h1 := rts_mem hx
    have h2 := rts_mem hy
    exact ev_Right n x y (by omega) (by omega) (by omega) S
  simp only [Pl.emb, Pl.eqv]
  rw [ev_enter (n := n + 1) (show E.ok 15 = true from rfl) Tryz.func15 ppl_b (Nat.le_of_ble_eq_true rfl) (by decide +kernel)]
  cases q1 : eqvL Dc.eqv da db
  · rw [q1] at e1
    simp (disch := first | (simp [upd]; done) | omega | assumption) [AV.cells?, AV.isCell, ppl_p0, ppl_p1, ppl_p2, ppl_p3, cutC, bodyOf, Tryz.f15, e1]
  rw [q1] at e1
  by_cases hl : ra.length = rb.length
  · have hl' : ((ra.length : Int) != (rb.length : Int)) = false := by simp; omega
    have hrec' := fun (i : Nat) (hi : i < ra.length) => hrec ra[i] (List.getElem_mem hi) rb[i] (List.getElem_mem (by omega))
    cases q : eqvL Rt.eqv ra rb
    · obtain ⟨j, hj, q1, q2⟩ := eqvL_none hl q
      obtain ⟨F, hF, hR⟩ := ppl_some0 (n + 1) ra rb (tokOf tra) (tokOf trb) (.slice (dcL da) (tokOf tda)) (.slice (dcL db) (tokOf tdb)) S (by omega) hl hrec' j hj (by omega) q1 q2
      simp only [ppl_I0] at hF hR
      simp (disch := first | (simp [upd]; done) | omega | assumption) [AV.cells?, AV.isCell, ppl_p0, ppl_p1, ppl_p2, ppl_p3, cutC, bodyOf, Tryz.f15, rtL_len, e1, hl', hF, hR]
    · obtain ⟨F, hF, hR⟩ := ppl_all0 (n + 1) ra rb (tokOf tra) (tokOf trb) (.slice (dcL da) (tokOf tda)) (.slice (dcL db) (tokOf tdb)) S (by omega) hl hrec' (by omega) (eqvL_get hl q)
      simp only [ppl_I0] at hF hR
      simp (disch := first | (simp [upd]; done) | omega | assumption) [AV.cells?, AV.isCell, ppl_p0, ppl_p1, ppl_p2, ppl_p3, cutC, bodyOf, Tryz.f15, rtL_len, e1, hl', hF, hR]
  · have hl' : ((ra.length : Int) != (rb.length : Int)) = true := by simp; omega
    rw [eqvL_ne hl]
    simp (disch := first | (simp [upd]; done) | omega | assumption) [AV.cells?, AV.isCell, ppl_p0, ppl_p1, ppl_p2, ppl_p3, cutC, bodyOf, Tryz.f15, rtL_len, e1, hl']
end Go.Proofs.YtcpoinfdnimanaaGreatDoor.PO
/- The first right of a name (policy.Find, the reference's), evaluated. No condition. -/
namespace Go.Proofs.YtcpoinfdnimanaaGreatDoor.PO
set_option linter.unusedVariables false
set_option linter.unusedSimpArgs false
open Go AE EX PT NF
set_option maxRecDepth 100000

/-! ### the place of the first one -/
def ixF {α : Type} (p : α → Bool) : List α → Option Nat
  | [] => none
  | x :: l => if p x then some 0 else (ixF p l).map (· + 1)
theorem ixF_none {α : Type} {p : α → Bool} : ∀ {l : List α}, ixF p l = none → ∀ (i : Nat) (hi : i < l.length), p l[i] = false
  | [], _, i, hi => by simp at hi
  | x :: l, h, i, hi => by
    simp only [ixF] at h
    split at h
    · cases h
    · rename_i hp
      have h' : ixF p l = none := by simpa using h
      cases i with
      | zero => simpa using hp
      | succ i => simpa using ixF_none h' i (by simpa using hi)
theorem ixF_some {α : Type} {p : α → Bool} : ∀ {l : List α} {j : Nat}, ixF p l = some j → ∃ hj : j < l.length, p l[j] = true ∧ ∀ (i : Nat) (hi : i < j), p l[i] = false
  | [], j, h => by cases h
  | x :: l, j, h => by
    simp only [ixF] at h
    split at h
    · rename_i hp
      cases h
      exact ⟨by simp, hp, fun i hi => by omega⟩
    · rename_i hp
      cases h' : ixF p l with
      | none => rw [h'] at h; cases h
      | some k =>
        rw [h'] at h
        simp only [Option.map_some, Option.some.injEq] at h
        subst h
        obtain ⟨hj, h1, h2⟩ := ixF_some h'
        refine ⟨by simpa using hj, by simpa using h1, fun i hi => ?_⟩
        cases i with
        | zero => simpa using hp
        | succ i => simpa using h2 i (by omega)

noncomputable def ixr_p0 : Code := cutC (bodyOf Tryz.f62) [0]
noncomputable def ixr_p1 : Code := cutC (bodyOf Tryz.f62) [1, 0, 0]
noncomputable def ixr_L0 : Code := cutC (bodyOf Tryz.f62) [1, 0, 1, 0, 0]
noncomputable def ixr_p2 : Code := cutC (bodyOf Tryz.f62) [1, 1]
theorem ixr_b : Tryz.f62.body = some (.seq ixr_p0 (.seq (.seq ixr_p1 (.block 0 (.loop ixr_L0))) ixr_p2)) := rfl
/-- ahead of a round -/
def ixr_I0 (n : Nat) (l : List Rt) (tk : Tok) (S0 : St) (g : FuncId) (c : AV) (p : Rt → Bool) (i : Nat) (fs : FS) : Prop :=
  fs.t 0 = .slice (rtL l) tk ∧ fs.t 1 = .fn g [] [c] ∧ fs.t 7 = .int .i64 l.length ∧ fs.t 8 = .int .i64 (i : Nat) ∧ fs.S = S0
theorem ixr_go0 (n : Nat) (l : List Rt) (tk : Tok) (S0 : St) (g : FuncId) (c : AV) (p : Rt → Bool) (hs : l.length ≤ 1048576) (hrec : ∀ (i : Nat) (hi : i < l.length), ev Tryz.prog E n g [l[i].emb, c] S0 = some (.ret (.bool (p l[i])), S0)) (i : Nat) (hi : i < l.length) (q : (!p l[i]) = true) (fs : FS) (h : ixr_I0 n l tk S0 g c p i fs) :
    ∃ fs', (evCode ⟨Tryz.prog, E.esc 62, n⟩ (ev Tryz.prog E n) (E.ps 62) n ixr_L0) fs = some (.norm, fs') ∧ ixr_I0 n l tk S0 g c p (i + 1) fs' := by
  obtain ⟨tF, bF, cF, SF⟩ := fs
  obtain ⟨h1, h2, h3, h4, h5⟩ := id h
  simp only at h1 h2 h3 h4 h5
  subst h5
  have hiz : (i : Int) < (l.length : Nat) := by omega
  have hw : IntKind.i64.wrap ((i : Int) + 1) = (i : Int) + 1 := wrap64 _ (by omega)
  have hr := hrec i hi
  simp at q
  rw [q] at hr
  have hxa := rtL_get l hi
  generalize l[i] = x at *
  obtain ⟨na, ⟨k1, m1, x1, l1, u1, t1, s1⟩, ⟨k2, m2, x2, l2, u2, t2, s2⟩, ⟨ba, tba⟩, ⟨da, tda⟩, ⟨aa, taa⟩, ⟨ua, tua⟩⟩ := x
  simp only [Rt.emb, Rt.cells, X.cells, List.cons_append, List.nil_append] at hxa hr
  all_goals (
  refine ⟨_, by
    simp (disch := first | (simp only [List.length_append, List.length_cons, List.length_nil]; omega) | (simp [h1, h2, h3, h4]; done) | assumption) [AV.cells?, AV.isCell, ixr_L0, cutC, bodyOf, Tryz.f62, h1, h2, h3, h4, hi, hiz, q, hr, hxa, rtL_len]
    rfl, ?_⟩
  simp [ixr_I0, upd, h1, h2, h3, h4, hw])
theorem ixr_stop0 (n : Nat) (l : List Rt) (tk : Tok) (S0 : St) (g : FuncId) (c : AV) (p : Rt → Bool) (hs : l.length ≤ 1048576) (hrec : ∀ (i : Nat) (hi : i < l.length), ev Tryz.prog E n g [l[i].emb, c] S0 = some (.ret (.bool (p l[i])), S0)) (i : Nat) (hi : i < l.length) (q : (!p l[i]) = false) (fs : FS) (h : ixr_I0 n l tk S0 g c p i fs) :
    ∃ fs', (evCode ⟨Tryz.prog, E.esc 62, n⟩ (ev Tryz.prog E n) (E.ps 62) n ixr_L0) fs = some (.ret, fs') ∧ (fs'.t 4 = .int .i64 (i : Nat) ∧ fs'.S = S0) := by
  obtain ⟨tF, bF, cF, SF⟩ := fs
  obtain ⟨h1, h2, h3, h4, h5⟩ := id h
  simp only at h1 h2 h3 h4 h5
  subst h5
  have hiz : (i : Int) < (l.length : Nat) := by omega
  have hw : IntKind.i64.wrap ((i : Int) + 1) = (i : Int) + 1 := wrap64 _ (by omega)
  have hr := hrec i hi
  simp at q
  rw [q] at hr
  have hxa := rtL_get l hi
  generalize l[i] = x at *
  obtain ⟨na, ⟨k1, m1, x1, l1, u1, t1, s1⟩, ⟨k2, m2, x2, l2, u2, t2, s2⟩, ⟨ba, tba⟩, ⟨da, tda⟩, ⟨aa, taa⟩, ⟨ua, tua⟩⟩ := x
  simp only [Rt.emb, Rt.cells, X.cells, List.cons_append, List.nil_append] at hxa hr
  all_goals (
  refine ⟨_, by
    simp (disch := first | (simp only [List.length_append, List.length_cons, List.length_nil]; omega) | (simp [h1, h2, h3, h4]; done) | assumption) [AV.cells?, AV.isCell, ixr_L0, cutC, bodyOf, Tryz.f62, h1, h2, h3, h4, hi, hiz, q, hr, hxa, rtL_len]
    rfl, ?_⟩
  simp [upd, h1, h2, h3, h4, hw])
theorem ixr_end0 (n : Nat) (l : List Rt) (tk : Tok) (S0 : St) (g : FuncId) (c : AV) (p : Rt → Bool) (hs : l.length ≤ 1048576) (hrec : ∀ (i : Nat) (hi : i < l.length), ev Tryz.prog E n g [l[i].emb, c] S0 = some (.ret (.bool (p l[i])), S0)) (fs : FS) (h : ixr_I0 n l tk S0 g c p (l.length) fs) : ∃ fs', (evCode ⟨Tryz.prog, E.esc 62, n⟩ (ev Tryz.prog E n) (E.ps 62) n ixr_L0) fs = some (.exit 0, fs') ∧ ixr_I0 n l tk S0 g c p (l.length) fs' := by
  obtain ⟨tF, bF, cF, SF⟩ := fs
  obtain ⟨h1, h2, h3, h4, h5⟩ := id h
  simp only at h1 h2 h3 h4 h5
  subst h5
  refine ⟨_, by
    simp (disch := first | (simp only [List.length_append, List.length_cons, List.length_nil]; omega) | (simp; done) | assumption) [AV.cells?, AV.isCell, ixr_L0, cutC, bodyOf, Tryz.f62, h1, h2, h3, h4, rtL_len]
    rfl, ?_⟩
  simp only [ixr_I0, upd] at h ⊢
  simpa using h
theorem ixr_all0 (n : Nat) (l : List Rt) (tk : Tok) (S0 : St) (g : FuncId) (c : AV) (p : Rt → Bool) (hs : l.length ≤ 1048576) (hrec : ∀ (i : Nat) (hi : i < l.length), ev Tryz.prog E n g [l[i].emb, c] S0 = some (.ret (.bool (p l[i])), S0)) (hn : l.length < n) (hq : ∀ (i : Nat) (hi : i < l.length), (!p l[i]) = true) : ∃ F : FS → FS, (∀ fs, ixr_I0 n l tk S0 g c p 0 fs → iter n (evCode ⟨Tryz.prog, E.esc 62, n⟩ (ev Tryz.prog E n) (E.ps 62) n ixr_L0) fs = some (.exit 0, F fs)) ∧ ∀ fs, ixr_I0 n l tk S0 g c p 0 fs → ixr_I0 n l tk S0 g c p (l.length) (F fs) :=
  for_all (ixr_I0 n l tk S0 g c p) 0 (l.length) hn (fun i hi fs h => ixr_go0 n l tk S0 g c p hs hrec i hi (hq i hi) fs h) (fun fs h => ixr_end0 n l tk S0 g c p hs hrec fs h)
theorem ixr_some0 (n : Nat) (l : List Rt) (tk : Tok) (S0 : St) (g : FuncId) (c : AV) (p : Rt → Bool) (hs : l.length ≤ 1048576) (hrec : ∀ (i : Nat) (hi : i < l.length), ev Tryz.prog E n g [l[i].emb, c] S0 = some (.ret (.bool (p l[i])), S0)) (j : Nat) (hj : j < l.length) (hn : j < n) (hq : ∀ (i : Nat) (hi : i < j), (!p l[i]) = true) (q : (!p l[j]) = false) : ∃ F : FS → FS, (∀ fs, ixr_I0 n l tk S0 g c p 0 fs → iter n (evCode ⟨Tryz.prog, E.esc 62, n⟩ (ev Tryz.prog E n) (E.ps 62) n ixr_L0) fs = some (.ret, F fs)) ∧ ∀ fs, ixr_I0 n l tk S0 g c p 0 fs → ((F fs).t 4 = .int .i64 (j : Nat) ∧ (F fs).S = S0) :=
  for_stop (ixr_I0 n l tk S0 g c p) (.ret) (fun fs => fs.t 4 = .int .i64 (j : Nat) ∧ fs.S = S0) j hn (by simp) (fun i hi fs h => ixr_go0 n l tk S0 g c p hs hrec i (by omega) (hq i hi) fs h) (fun fs h => ixr_stop0 n l tk S0 g c p hs hrec j hj q fs h)
def ixI {α : Type} (p : α → Bool) (l : List α) : Int := match ixF p l with
  | some j => (j : Nat) | none => -1
theorem ev_ixr (n : Nat) (l : List Rt) (tk : Tok) (S : St) (g : FuncId) (c : AV) (p : Rt → Bool) (hs : l.length ≤ 1048576) (hn : l.length < n) (hrec : ∀ x ∈ l, ev Tryz.prog E n g [x.emb, c] S = some (.ret (.bool (p x)), S)) :
    ev Tryz.prog E (n + 1) 62 [.slice (rtL l) tk, .fn g [] [c]] S = some (.ret (.int .i64 (ixI p l)), S) := by
  have hrec' := fun (i : Nat) (hi : i < l.length) => hrec l[i] (List.getElem_mem hi)
  rw [ev_enter (n := n) (show E.ok 62 = true from rfl) Tryz.func62 ixr_b (Nat.le_of_ble_eq_true rfl) (by decide +kernel)]
  unfold ixI
  cases q : ixF p l with
  | none =>
    obtain ⟨F, hF, hR⟩ := ixr_all0 n l tk S g c p hs hrec' hn (fun i hi => by rw [ixF_none q i hi]; rfl)
    simp only [ixr_I0] at hF hR
    simp (disch := first | (simp [upd]; done) | omega | assumption) [AV.cells?, AV.isCell, ixr_p0, ixr_p1, ixr_p2, cutC, bodyOf, Tryz.f62, rtL_len, hF, hR]
  | some j =>
    obtain ⟨hj, q1, q2⟩ := ixF_some q
    obtain ⟨F, hF, hR⟩ := ixr_some0 n l tk S g c p hs hrec' j hj (by omega) (fun i hi => by rw [q2 i hi]; rfl) (by rw [q1]; rfl)
    simp only [ixr_I0] at hF hR
    simp (disch := first | (simp [upd]; done) | omega | assumption) [AV.cells?, AV.isCell, ixr_p0, ixr_p1, ixr_p2, cutC, bodyOf, Tryz.f62, rtL_len, hF, hR]

theorem ev_fint (n : Nat) (x : Rt) (s : List UInt8) (S0 : St) (ex : List HBox) (T : List Nat) : ev Tryz.prog E (n + 1) 63 [x.emb, .ptr S0.H.length 0] ⟨S0.H ++ [⟨9, [.str s]⟩], T⟩ = some (.ret (.bool (x.nm == s)), ⟨S0.H ++ [⟨9, [.str s]⟩], T⟩) := by
  obtain ⟨na, ⟨k1, m1, x1, l1, u1, t1, s1⟩, ⟨k2, m2, x2, l2, u2, t2, s2⟩, ⟨ba, tba⟩, ⟨da, tda⟩, ⟨aa, taa⟩, ⟨ua, tua⟩⟩ := x
  simp only [Rt.emb, Rt.cells, X.cells, List.cons_append, List.nil_append]
  rw [ev_enter (n := n) (show E.ok 63 = true from rfl) Tryz.func63 (fn := Tryz.f63) rfl (Nat.le_of_ble_eq_true rfl) (by decide +kernel)]
  simp (disch := first | (simp only [List.length_append, List.length_cons, List.length_nil]; omega) | (simp; done) | assumption) [AV.cells?, AV.isCell, Tryz.f63]

/-- the first right of a name: itself, or none -/
def rt0 : Rt := ⟨[], .mk 0 [] 0 0 0 true [], .mk 0 [] 0 0 0 true [], ⟨[], true⟩, ⟨[], true⟩, ⟨[], true⟩, ⟨[], true⟩⟩
def findR (l : List Rt) (s : List UInt8) : Rt × Bool := match ixF (fun r => r.nm == s) l with
  | some j => (l.getD j rt0, true) | none => (rt0, false)
theorem flat_upL (l : List Up) : AV.flatL (upL l) = true := flatL_map _ _ fun x _ => by
  obtain ⟨sa, na, x⟩ := x
  have := flat_emb x
  obtain ⟨k, nm, x, lo, hi2, tk, ks⟩ := x
  simpa [Up.emb, X.emb, X.cells, AV.flat, AV.flatL] using this
theorem flat_duL (l : List Du) : AV.flatL (duL l) = true := flatL_map _ _ fun x _ => rfl
theorem flat_dcL (l : List Dc) : AV.flatL (dcL l) = true := flatL_map _ _ fun x _ => rfl
theorem flat_sl {es : List AV} (h : AV.flatL es = true) (tk : Bool) : AV.flat (.slice es (tokOf tk)) = true := by cases tk <;> exact h
theorem flat_rt (r : Rt) : r.emb.flat = true := by
  obtain ⟨na, p, o, ⟨ba, tba⟩, ⟨da, tda⟩, ⟨aa, taa⟩, ⟨ua, tua⟩⟩ := r
  have h1 := flat_emb p
  have h2 := flat_emb o
  obtain ⟨k1, m1, x1, l1, u1, t1, s1⟩ := p
  obtain ⟨k2, m2, x2, l2, u2, t2, s2⟩ := o
  simp only [X.emb, AV.flat, AV.flatL] at h1 h2
  simp at h1 h2
  simp [Rt.emb, Rt.cells, X.cells, AV.flat, AV.flatL, h1, h2, flat_sl, flat_upL, flat_duL]
theorem flat_rtL (l : List Rt) : AV.flatL (rtL l) = true := flatL_map _ _ fun x _ => flat_rt x
theorem flat_pl (p : Pl) : p.emb.flat = true := by simp [Pl.emb, AV.flat, AV.flatL, flat_sl, flat_rtL, flat_dcL]
theorem fin_drop1 {S : St} {ex : List HBox} {v : AV} (h : v.flat = true) : finish S v ⟨S.H ++ ex, S.T⟩ = some (v, S) := by
  obtain ⟨a, b, c⟩ := flat_spec v h
  unfold finish
  rw [if_pos a, b, if_pos (by simp [boxEqL_refl, c])]

theorem ev_find (n : Nat) (l : List Rt) (tk : Tok) (s : List UInt8) (S : St) (hs : l.length ≤ 1048576) (hn : l.length + 2 ≤ n) :
    ev Tryz.prog E (n + 1) 25 [.slice (rtL l) tk, .str s] S = some (.ret (.tup [(findR l s).1.emb, .bool (findR l s).2]), S) := by
  obtain ⟨n, rfl⟩ : ∃ k, n = k + 1 := ⟨n - 1, by omega⟩
  have e1 := ev_ixr n l tk ⟨S.H ++ [⟨9, [.str s]⟩], S.T⟩ 63 (.ptr S.H.length 0) (fun r => r.nm == s) hs (by omega) fun x hx => by
    obtain ⟨n, rfl⟩ : ∃ k, n = k + 1 := ⟨n - 1, by omega⟩
    exact ev_fint n x s S [] S.T
  have hf := fun v h => @fin_drop1 S [⟨9, [.str s]⟩] v h
  unfold findR
  unfold ixI at e1
  rw [ev_enter (n := n + 1) (show E.ok 25 = true from rfl) Tryz.func25 (fn := Tryz.f25) rfl (Nat.le_of_ble_eq_true rfl) (by decide +kernel)]
  cases q : ixF (fun r => r.nm == s) l with
  | none =>
    rw [q] at e1
    have hf0 := hf (.tup [rt0.emb, .bool false]) (by have := flat_rt rt0; simp [AV.flat, AV.flatL, this])
    simp only [rt0, Rt.emb, Rt.cells, X.cells, upL, duL, embL, List.map_nil, tokOf, List.cons_append, List.nil_append] at hf0
    simp (disch := first | (simp only [List.length_append, List.length_cons, List.length_nil]; omega) | (simp; done) | assumption) [AV.cells?, AV.isCell, Tryz.f25, e1, AV.sealedL, AV.sealed, finRet, hf0, rt0, Rt.emb, Rt.cells, X.cells, upL, duL, embL, tokOf]
  | some j =>
    obtain ⟨hj, q1, q2⟩ := ixF_some q
    rw [q] at e1
    simp only at e1
    have hxa := rtL_get l hj
    have hjz : ¬ (j : Int) < 0 := by omega
    have hg : l.getD j rt0 = l[j] := by simp [List.getD, hj]
    simp only [hg]
    have hfl := flat_rt l[j]
    generalize l[j] = x at *
    have hf0 := hf (.tup [x.emb, .bool true]) (by simp [AV.flat, AV.flatL, hfl])
    obtain ⟨na, ⟨k1, m1, x1, l1, u1, t1, s1⟩, ⟨k2, m2, x2, l2, u2, t2, s2⟩, ⟨ba, tba⟩, ⟨da, tda⟩, ⟨aa, taa⟩, ⟨ua, tua⟩⟩ := x
    simp only [Rt.emb, Rt.cells, X.cells, List.cons_append, List.nil_append] at hxa hf0 ⊢
    simp (disch := first | (simp only [List.length_append, List.length_cons, List.length_nil]; omega) | (simp; done) | assumption) [AV.cells?, AV.isCell, Tryz.f25, e1, hxa, hjz, hj, rtL_len, AV.sealedL, AV.sealed, finRet, hf0]
/-! ### copies -/
theorem appU (S : St) (es xs : List AV) (tok : Tok) (g1 : sizesOk 5 es = true) (g2 : sizesOk 5 xs = true) (h : es.length + xs.length ≤ 16777216) : evAppend Tryz.prog [35, 35] (.slice es (accT S 5 es)) (.slice xs tok) (accS S 5 es) = some (.slice (es ++ xs) (accT S 5 (es ++ xs)), accS S 5 (es ++ xs)) :=
  acc_append (e := 60) (d := .slice 60) (z := [.str [], .str [], .str [], .int .i64 0, .bool false]) (sz := 5) (bt := 64) (by kernel_rfl) (by kernel_rfl) (fun _ h => by cases h) (by kernel_rfl) rfl (by decide) (by kernel_rfl) (by kernel_rfl) (by decide) S es xs tok g1 g2 (by omega) (by omega)
theorem appP (S : St) (es xs : List AV) (tok : Tok) (g1 : sizesOk 8 es = true) (g2 : sizesOk 8 xs = true) (h : es.length + xs.length ≤ 16777216) : evAppend Tryz.prog [34, 34] (.slice es (accT S 8 es)) (.slice xs tok) (accS S 8 es) = some (.slice (es ++ xs) (accT S 8 (es ++ xs)), accS S 8 (es ++ xs)) :=
  acc_append (e := 123) (d := .slice 123) (z := [.int .i64 0, .str [], .int .i64 0, .str [], .int .i64 0, .int .i64 0, .int .i64 0, .slice [] .clip]) (sz := 8) (bt := 96) (by kernel_rfl) (by kernel_rfl) (fun _ h => by cases h) (by kernel_rfl) rfl (by decide) (by kernel_rfl) (by kernel_rfl) (by decide) S es xs tok g1 g2 (by omega) (by omega)
theorem sizes_duL (l : List Du) : sizesOk 5 (duL l) = true := sizesOk_map 5 _ _ fun x => ⟨_, rfl, rfl⟩
theorem cells8 (u : Up) : ∃ cs, u.emb.cells? = some cs ∧ cs.length = 8 := by
  obtain ⟨sa, na, ⟨k, nm, x, lo, hi2, tk, ks⟩⟩ := u
  exact ⟨_, rfl, rfl⟩
theorem sizes_upL (l : List Up) : sizesOk 8 (upL l) = true := sizesOk_map 8 _ _ cells8
theorem tokE_map {α : Type} (f : α → AV) (l : List α) : tokE (l.map f) = tokOf l.isEmpty := by cases l <;> rfl
theorem ev_clU (n : Nat) (l : List Du) (tk : Tok) (S : St) (hs : l.length ≤ 1048576) : ev Tryz.prog E (n + 1) 32 [.slice (duL l) tk] S = some (.ret (.slice (duL l) (tokOf l.isEmpty)), S) := by
  rw [ev_fork (show E.ok 32 = true from rfl)]
  have he : ∀ a : AV, evFunc Tryz.prog E (ev Tryz.prog E n) n 32 [a] S = _ := fun a => evFunc_enter Tryz.func32 (fn := Tryz.f32) rfl (Nat.le_of_ble_eq_true rfl) (by decide +kernel)
  cases l with
  | nil =>
    have hap := appU S [] [] (.knil true) rfl rfl (by simp)
    have hap' := appU S [] [] (.knil false) rfl rfl (by simp)
    have hf : finish S (.slice [] .clip) S = some (.slice [] .clip, S) := fin_flat rfl S
    simp only [accT_nil, accS_nil, List.append_nil] at hap hap'
    simp only [duL, List.map_nil, evFork, he]
    simp (disch := first | (simp only [List.length_append, List.length_cons, List.length_nil]; omega) | (simp; done) | assumption) [AV.cells?, AV.isCell, Tryz.f32, evB2_nil, hap, hap', finRet, hf, avEq, avEqL, boxEqL_refl, tokOf]
  | cons x l =>
    have hap := appU S [] (duL (x :: l)) tk rfl (sizes_duL (x :: l)) (by rw [duL_len]; simp at hs ⊢; omega)
    have hf := fin_acc1 S 5 (duL (x :: l)) (flat_duL (x :: l))
    simp only [accT_nil, accS_nil, List.nil_append] at hap
    have hx : duL (x :: l) = x.emb :: duL l := rfl
    have ht : tokE (duL (x :: l)) = tokOf (x :: l).isEmpty := tokE_map _ _
    rw [ht] at hf
    rw [hx] at hap hf ⊢
    simp only [evFork, he]
    simp (disch := first | (simp only [List.length_append, List.length_cons, List.length_nil]; omega) | (simp; done) | assumption) [AV.cells?, AV.isCell, Tryz.f32, evB2_cons, hap, finRet, hf]
end Go.Proofs.YtcpoinfdnimanaaGreatDoor.PO
/- policy.Find and the reference's Find, evaluated. No condition. -/
namespace Go.Proofs.YtcpoinfdnimanaaGreatDoor.PO
set_option linter.unusedVariables false
set_option linter.unusedSimpArgs false
open Go AE EX PT NF
set_option maxRecDepth 100000

def clU (u : Up) : Up := ⟨u.side, u.nm, cl u.to⟩
def clUs (l : List Up) : Ls Up := ⟨l.map clU, l.isEmpty⟩
noncomputable def upd_p0 : Code := cutC (bodyOf Tryz.f31) [0]
noncomputable def upd_p1 : Code := cutC (bodyOf Tryz.f31) [1, 0]
noncomputable def upd_p2 : Code := cutC (bodyOf Tryz.f31) [1, 1, 0, 0]
noncomputable def upd_L0 : Code := cutC (bodyOf Tryz.f31) [1, 1, 0, 1, 0, 0]
noncomputable def upd_p3 : Code := cutC (bodyOf Tryz.f31) [1, 1, 1]
theorem upd_b : Tryz.f31.body = some (.seq upd_p0 (.seq upd_p1 (.seq (.seq upd_p2 (.block 0 (.loop upd_L0))) upd_p3))) := rfl
/-- ahead of a round -/
def upd_I0 (n : Nat) (l : List Up) (tk : Tok) (S0 : St) (i : Nat) (fs : FS) : Prop :=
  fs.t 3 = .slice (upL ((l.map clU).take i)) (accT S0 8 (upL ((l.map clU).take i))) ∧ fs.t 6 = .slice (upL l) tk ∧ fs.t 7 = .int .i64 l.length ∧ fs.t 8 = .int .i64 (i : Nat) ∧ fs.S = accS S0 8 (upL ((l.map clU).take i))
theorem upd_go0 (n : Nat) (l : List Up) (tk : Tok) (S0 : St) (hs : l.length ≤ 1048000) (hrec : ∀ (i : Nat) (hi : i < l.length) (S : St), ev Tryz.prog E n 30 [l[i].to.emb] S = some (.ret (cl l[i].to).emb, S)) (i : Nat) (hi : i < l.length) (fs : FS) (h : upd_I0 n l tk S0 i fs) :
    ∃ fs', (evCode ⟨Tryz.prog, E.esc 31, n⟩ (ev Tryz.prog E n) (E.ps 31) n upd_L0) fs = some (.norm, fs') ∧ upd_I0 n l tk S0 (i + 1) fs' := by
  obtain ⟨tF, bF, cF, SF⟩ := fs
  obtain ⟨h1, h2, h3, h4, h5⟩ := id h
  simp only at h1 h2 h3 h4 h5
  subst h5
  have hiz : (i : Int) < (l.length : Nat) := by omega
  have hw : IntKind.i64.wrap ((i : Int) + 1) = (i : Int) + 1 := wrap64 _ (by omega)
  have hr := hrec i hi (accS S0 8 (upL ((l.map clU).take i)))
  have hxa := upL_get l hi
  have hsp : (l.map clU).take (i + 1) = (l.map clU).take i ++ [clU l[i]] := by rw [List.take_add_one, List.getElem?_map, List.getElem?_eq_getElem hi]; rfl
  have hap := appP S0 (upL ((l.map clU).take i)) (upL [clU l[i]]) .clip (sizes_upL _) (sizes_upL _) (by simp [upL_len]; omega)
  rw [← show upL ((l.map clU).take i ++ [clU l[i]]) = upL ((l.map clU).take i) ++ upL [clU l[i]] by simp [upL], ← hsp] at hap
  rw [show upL [clU l[i]] = [(clU l[i]).emb] from rfl] at hap
  rw [show clU l[i] = ⟨l[i].side, l[i].nm, cl l[i].to⟩ from rfl] at hap
  generalize hq : cl l[i].to = z at *
  clear hsp hq
  generalize l[i] = x at *
  obtain ⟨sa, na, ⟨k, nm, x, lo, hi2, tk', ks⟩⟩ := x
  obtain ⟨k', nm', x', lo', hi2', tk2, ks'⟩ := z
  simp only [Up.emb, X.cells] at hxa hap
  simp only [X.emb] at hr
  all_goals (
  refine ⟨_, by
    simp (disch := first | (simp only [List.length_append, List.length_cons, List.length_nil]; omega) | (simp [h1, h2, h3, h4]; done) | assumption) [AV.cells?, AV.isCell, upd_L0, cutC, bodyOf, Tryz.f31, h1, h2, h3, h4, hi, hiz, hr, hxa, upL_len, hap]
    rfl, ?_⟩
  simp [upd_I0, upd, h1, h2, h3, h4, hw])
theorem upd_end0 (n : Nat) (l : List Up) (tk : Tok) (S0 : St) (hs : l.length ≤ 1048000) (hrec : ∀ (i : Nat) (hi : i < l.length) (S : St), ev Tryz.prog E n 30 [l[i].to.emb] S = some (.ret (cl l[i].to).emb, S)) (fs : FS) (h : upd_I0 n l tk S0 (l.length) fs) : ∃ fs', (evCode ⟨Tryz.prog, E.esc 31, n⟩ (ev Tryz.prog E n) (E.ps 31) n upd_L0) fs = some (.exit 0, fs') ∧ upd_I0 n l tk S0 (l.length) fs' := by
  obtain ⟨tF, bF, cF, SF⟩ := fs
  obtain ⟨h1, h2, h3, h4, h5⟩ := id h
  simp only at h1 h2 h3 h4 h5
  subst h5
  refine ⟨_, by
    simp (disch := first | (simp only [List.length_append, List.length_cons, List.length_nil]; omega) | (simp; done) | assumption) [AV.cells?, AV.isCell, upd_L0, cutC, bodyOf, Tryz.f31, h1, h2, h3, h4, upL_len]
    rfl, ?_⟩
  simp only [upd_I0, upd] at h ⊢
  simpa using h
theorem upd_all0 (n : Nat) (l : List Up) (tk : Tok) (S0 : St) (hs : l.length ≤ 1048000) (hrec : ∀ (i : Nat) (hi : i < l.length) (S : St), ev Tryz.prog E n 30 [l[i].to.emb] S = some (.ret (cl l[i].to).emb, S)) (hn : l.length < n) : ∃ F : FS → FS, (∀ fs, upd_I0 n l tk S0 0 fs → iter n (evCode ⟨Tryz.prog, E.esc 31, n⟩ (ev Tryz.prog E n) (E.ps 31) n upd_L0) fs = some (.exit 0, F fs)) ∧ ∀ fs, upd_I0 n l tk S0 0 fs → upd_I0 n l tk S0 (l.length) (F fs) :=
  for_all (upd_I0 n l tk S0) 0 (l.length) hn (fun i hi fs h => upd_go0 n l tk S0 hs hrec i hi fs h) (fun fs h => upd_end0 n l tk S0 hs hrec fs h)
theorem ev_updates (n : Nat) (l : List Up) (tk : Tok) (S : St) (hs : upsSize l ≤ 1048000) (hn : upsSize l + 3 ≤ n) : ev Tryz.prog E (n + 1) 31 [.slice (upL l) tk] S = some (.ret (.slice (upL (clUs l).l) (tokOf (clUs l).tk)), S) := by
  have h1 := ups_len l
  obtain ⟨F, hF, hR⟩ := upd_all0 n l tk S (by omega) (fun i hi S => by
    have := ups_mem (List.getElem_mem hi)
    exact ev_aClone _ _ (Nat.le_refl _) (by omega) n (by omega) S) (by omega)
  rw [show l.length = (l.map clU).length by simp] at hR
  simp only [upd_I0, List.take_zero, List.map_nil, List.take_length] at hF hR
  simp only [List.length_map] at hR
  rw [show upL ([] : List Up) = [] from rfl] at hF hR
  simp only [accT_nil, accS_nil] at hF hR
  have hf := fin_acc1 S 8 (upL (l.map clU)) (flat_upL _)
  have ht : tokE (upL (l.map clU)) = tokOf l.isEmpty := by rw [upL, tokE_map]; cases l <;> rfl
  rw [ht] at hf
  simp only [clUs]
  rw [ev_enter (n := n) (show E.ok 31 = true from rfl) Tryz.func31 upd_b (Nat.le_of_ble_eq_true rfl) (by decide +kernel)]
  simp (disch := first | (simp [upd]; done) | omega | assumption) [AV.cells?, AV.isCell, upd_p0, upd_p1, upd_p2, upd_p3, cutC, bodyOf, Tryz.f31, upL_len, hF, hR, finRet, hf]

/-- a copy of a right -/
def clR (r : Rt) : Rt := ⟨r.nm, cl r.pre, cl r.on, clUs r.before.l, clUs r.during.l, clUs r.after.l, ⟨r.duties.l, r.duties.l.isEmpty⟩⟩
theorem ev_Find (n : Nat) (p : Pl) (s : List UInt8) (hs : p.size + 20 ≤ 1048000) (hn : p.size + 20 ≤ n) (S : St) :
    ev Tryz.prog E (n + 1) 11 [p.emb, .str s] S = some (.ret (.tup [(clR (findR p.rights.l s).1).emb, .bool (findR p.rights.l s).2]), S) := by
  obtain ⟨n, rfl⟩ : ∃ k, n = k + 1 := ⟨n - 1, by omega⟩
  obtain ⟨⟨da, tda⟩, ⟨ra, tra⟩⟩ := p
  simp only [Pl.size] at hs hn
  have h1 := rts_len ra
  have e1 := ev_find n ra (tokOf tra) s S (by omega) (by omega)
  have hsz : (findR ra s).1.size ≤ rtsSize ra + 10 := by
    unfold findR
    cases q : ixF (fun r => r.nm == s) ra with
    | none => simp [rt0, Rt.size, X.size, sizeL, upsSize]
    | some j =>
      obtain ⟨hj, _, _⟩ := ixF_some q
      have h2 := rts_mem (List.getElem_mem hj)
      have hg : ra.getD j rt0 = ra[j] := by simp [List.getD, hj]
      simp only [hg]; omega
  generalize hR : findR ra s = r at *
  obtain ⟨r, ok⟩ := r
  simp only at hsz ⊢
  obtain ⟨na, pa, oa, ⟨ba, tba⟩, ⟨da', tda'⟩, ⟨aa, taa⟩, ⟨ua, tua⟩⟩ := r
  simp only [Rt.size] at hsz
  have e2 := ev_aClone _ pa (Nat.le_refl _) (by omega) (n + 1) (by omega) S
  have e3 := ev_aClone _ oa (Nat.le_refl _) (by omega) (n + 1) (by omega) S
  have e4 := ev_updates n ba (tokOf tba) S (by omega) (by omega)
  have e5 := ev_updates n da' (tokOf tda') S (by omega) (by omega)
  have e6 := ev_updates n aa (tokOf taa) S (by omega) (by omega)
  have e7 := ev_clU n ua (tokOf tua) S (by omega)
  have hfl := flat_rt (clR ⟨na, pa, oa, ⟨ba, tba⟩, ⟨da', tda'⟩, ⟨aa, taa⟩, ⟨ua, tua⟩⟩)
  have hf := fin_flat (v := .tup [(clR ⟨na, pa, oa, ⟨ba, tba⟩, ⟨da', tda'⟩, ⟨aa, taa⟩, ⟨ua, tua⟩⟩).emb, .bool ok]) (by simp [AV.flat, AV.flatL, hfl]) S
  simp only [clR] at hf ⊢
  clear hsz hs hn hfl hR
  generalize cl pa = pb at *
  generalize cl oa = ob at *
  generalize clUs ba = bb at *
  generalize clUs da' = db at *
  generalize clUs aa = ab at *
  generalize ua.isEmpty = ub at *
  obtain ⟨k1, m1, x1, l1, u1, t1, s1⟩ := pa
  obtain ⟨k2, m2, x2, l2, u2, t2, s2⟩ := pb
  obtain ⟨k3, m3, x3, l3, u3, t3, s3⟩ := oa
  obtain ⟨k4, m4, x4, l4, u4, t4, s4⟩ := ob
  simp only [Rt.emb, Rt.cells, X.cells, X.emb, Pl.emb, List.cons_append, List.nil_append] at e1 e2 e3 hf ⊢
  rw [ev_enter (n := n + 1) (show E.ok 11 = true from rfl) Tryz.func11 (fn := Tryz.f11) rfl (Nat.le_of_ble_eq_true rfl) (by decide +kernel)]
  simp (disch := first | (simp only [List.length_append, List.length_cons, List.length_nil]; omega) | (simp; done) | assumption) [AV.cells?, AV.isCell, Tryz.f11, e1, e2, e3, e4, e5, e6, e7, finRet, hf]

/-! ### the reference's -/
noncomputable def rfi_p0 : Code := cutC (bodyOf Tryz.f12) [0]
noncomputable def rfi_p1 : Code := cutC (bodyOf Tryz.f12) [1, 0, 0]
noncomputable def rfi_L0 : Code := cutC (bodyOf Tryz.f12) [1, 0, 1, 0, 0]
noncomputable def rfi_p2 : Code := cutC (bodyOf Tryz.f12) [1, 1]
theorem rfi_b : Tryz.f12.body = some (.seq rfi_p0 (.seq (.seq rfi_p1 (.block 0 (.loop rfi_L0))) rfi_p2)) := rfl
/-- ahead of a round -/
def rfi_I0 (n : Nat) (l : List Rt) (tk : Tok) (s : List UInt8) (S0 : St) (z : List AV) (i : Nat) (fs : FS) : Prop :=
  fs.t 0 = .slice (rtL l) tk ∧ fs.t 1 = .str s ∧ fs.t 4 = .loc n 4 1 0 ∧ fs.b 4 = (1, z) ∧ fs.t 5 = .bool false ∧ fs.t 6 = .int .i64 (i : Nat) ∧ fs.S = S0
theorem rfi_go0 (n : Nat) (l : List Rt) (tk : Tok) (s : List UInt8) (S0 : St) (z : List AV) (hs : l.length ≤ 1048576) (hz : z.length = 17) (i : Nat) (hi : i < l.length) (q : (!(l[i].nm == s)) = true) (fs : FS) (h : rfi_I0 n l tk s S0 z i fs) :
    ∃ fs', (evCode ⟨Tryz.prog, E.esc 12, n⟩ (ev Tryz.prog E n) (E.ps 12) n rfi_L0) fs = some (.norm, fs') ∧ rfi_I0 n l tk s S0 z (i + 1) fs' := by
  obtain ⟨tF, bF, cF, SF⟩ := fs
  obtain ⟨h1, h2, h3, h4, h5, h6, h7⟩ := id h
  simp only at h1 h2 h3 h4 h5 h6 h7
  subst h7
  have hiz : (i : Int) < (l.length : Nat) := by omega
  have hw : IntKind.i64.wrap ((i : Int) + 1) = (i : Int) + 1 := wrap64 _ (by omega)
  have hxa := rtL_get l hi
  generalize l[i] = x at *
  obtain ⟨na, ⟨k1, m1, x1, l1, u1, t1, s1⟩, ⟨k2, m2, x2, l2, u2, t2, s2⟩, ⟨ba, tba⟩, ⟨da, tda⟩, ⟨aa, taa⟩, ⟨ua, tua⟩⟩ := x
  simp only [Rt.emb, Rt.cells, X.cells, List.cons_append, List.nil_append] at hxa ⊢
  simp only at q
  generalize hc : (na == s) = c at q
  cases c <;> first | (simp at q; done) | skip
  all_goals (
  refine ⟨_, by
    simp (disch := first | (simp only [List.length_append, List.length_cons, List.length_nil]; omega) | (simp [h1, h2, h3, h4, h5, h6]; done) | assumption) [AV.cells?, AV.isCell, rfi_L0, cutC, bodyOf, Tryz.f12, h1, h2, h3, h4, h5, h6, hi, hiz, q, hxa, rtL_len, hc, hz]
    rfl, ?_⟩
  simp [rfi_I0, upd, h1, h2, h3, h4, h5, h6, hw, hz])
theorem rfi_stop0 (n : Nat) (l : List Rt) (tk : Tok) (s : List UInt8) (S0 : St) (z : List AV) (hs : l.length ≤ 1048576) (hz : z.length = 17) (i : Nat) (hi : i < l.length) (q : (!(l[i].nm == s)) = false) (fs : FS) (h : rfi_I0 n l tk s S0 z i fs) :
    ∃ fs', (evCode ⟨Tryz.prog, E.esc 12, n⟩ (ev Tryz.prog E n) (E.ps 12) n rfi_L0) fs = some (.ret, fs') ∧ (fs'.t 4 = .loc n 4 1 0 ∧ fs'.b 4 = (1, l[i].cells) ∧ fs'.t 5 = .bool true ∧ fs'.S = S0) := by
  obtain ⟨tF, bF, cF, SF⟩ := fs
  obtain ⟨h1, h2, h3, h4, h5, h6, h7⟩ := id h
  simp only at h1 h2 h3 h4 h5 h6 h7
  subst h7
  have hiz : (i : Int) < (l.length : Nat) := by omega
  have hw : IntKind.i64.wrap ((i : Int) + 1) = (i : Int) + 1 := wrap64 _ (by omega)
  have hxa := rtL_get l hi
  generalize l[i] = x at *
  obtain ⟨na, ⟨k1, m1, x1, l1, u1, t1, s1⟩, ⟨k2, m2, x2, l2, u2, t2, s2⟩, ⟨ba, tba⟩, ⟨da, tda⟩, ⟨aa, taa⟩, ⟨ua, tua⟩⟩ := x
  simp only [Rt.emb, Rt.cells, X.cells, List.cons_append, List.nil_append] at hxa ⊢
  simp only at q
  generalize hc : (na == s) = c at q
  cases c <;> first | (simp at q; done) | skip
  all_goals (
  refine ⟨_, by
    simp (disch := first | (simp only [List.length_append, List.length_cons, List.length_nil]; omega) | (simp [h1, h2, h3, h4, h5, h6]; done) | assumption) [AV.cells?, AV.isCell, rfi_L0, cutC, bodyOf, Tryz.f12, h1, h2, h3, h4, h5, h6, hi, hiz, q, hxa, rtL_len, hc, hz]
    rfl, ?_⟩
  simp [upd, h1, h2, h3, h4, h5, h6, hw, hz])
theorem rfi_end0 (n : Nat) (l : List Rt) (tk : Tok) (s : List UInt8) (S0 : St) (z : List AV) (hs : l.length ≤ 1048576) (hz : z.length = 17) (fs : FS) (h : rfi_I0 n l tk s S0 z (l.length) fs) : ∃ fs', (evCode ⟨Tryz.prog, E.esc 12, n⟩ (ev Tryz.prog E n) (E.ps 12) n rfi_L0) fs = some (.exit 0, fs') ∧ rfi_I0 n l tk s S0 z (l.length) fs' := by
  obtain ⟨tF, bF, cF, SF⟩ := fs
  obtain ⟨h1, h2, h3, h4, h5, h6, h7⟩ := id h
  simp only at h1 h2 h3 h4 h5 h6 h7
  subst h7
  refine ⟨_, by
    simp (disch := first | (simp only [List.length_append, List.length_cons, List.length_nil]; omega) | (simp; done) | assumption) [AV.cells?, AV.isCell, rfi_L0, cutC, bodyOf, Tryz.f12, h1, h2, h3, h4, h5, h6, rtL_len]
    rfl, ?_⟩
  simp only [rfi_I0, upd] at h ⊢
  simpa using h
theorem rfi_all0 (n : Nat) (l : List Rt) (tk : Tok) (s : List UInt8) (S0 : St) (z : List AV) (hs : l.length ≤ 1048576) (hz : z.length = 17) (hn : l.length < n) (hq : ∀ (i : Nat) (hi : i < l.length), (!(l[i].nm == s)) = true) : ∃ F : FS → FS, (∀ fs, rfi_I0 n l tk s S0 z 0 fs → iter n (evCode ⟨Tryz.prog, E.esc 12, n⟩ (ev Tryz.prog E n) (E.ps 12) n rfi_L0) fs = some (.exit 0, F fs)) ∧ ∀ fs, rfi_I0 n l tk s S0 z 0 fs → rfi_I0 n l tk s S0 z (l.length) (F fs) :=
  for_all (rfi_I0 n l tk s S0 z) 0 (l.length) hn (fun i hi fs h => rfi_go0 n l tk s S0 z hs hz i hi (hq i hi) fs h) (fun fs h => rfi_end0 n l tk s S0 z hs hz fs h)
theorem rfi_some0 (n : Nat) (l : List Rt) (tk : Tok) (s : List UInt8) (S0 : St) (z : List AV) (hs : l.length ≤ 1048576) (hz : z.length = 17) (j : Nat) (hj : j < l.length) (hn : j < n) (hq : ∀ (i : Nat) (hi : i < j), (!(l[i].nm == s)) = true) (q : (!(l[j].nm == s)) = false) : ∃ F : FS → FS, (∀ fs, rfi_I0 n l tk s S0 z 0 fs → iter n (evCode ⟨Tryz.prog, E.esc 12, n⟩ (ev Tryz.prog E n) (E.ps 12) n rfi_L0) fs = some (.ret, F fs)) ∧ ∀ fs, rfi_I0 n l tk s S0 z 0 fs → ((F fs).t 4 = .loc n 4 1 0 ∧ (F fs).b 4 = (1, l[j].cells) ∧ (F fs).t 5 = .bool true ∧ (F fs).S = S0) :=
  for_stop (rfi_I0 n l tk s S0 z) (.ret) (fun fs => fs.t 4 = .loc n 4 1 0 ∧ fs.b 4 = (1, l[j].cells) ∧ fs.t 5 = .bool true ∧ fs.S = S0) j hn (by simp) (fun i hi fs h => rfi_go0 n l tk s S0 z hs hz i (by omega) (hq i hi) fs h) (fun fs h => rfi_stop0 n l tk s S0 z hs hz j hj q fs h)
theorem ev_rFind (n : Nat) (l : List Rt) (tk : Tok) (s : List UInt8) (S : St) (hs : l.length ≤ 1048576) (hn : l.length < n) :
    ev Tryz.prog E (n + 1) 12 [.slice (rtL l) tk, .str s] S = some (.ret (.tup [(findR l s).1.emb, .bool (findR l s).2]), S) := by
  unfold findR
  have hz : ([.str [], .int .i64 0, .str [], .int .i64 0, .int .i64 0, .int .i64 0, .slice [] .clip, .int .i64 0, .str [], .int .i64 0, .int .i64 0, .int .i64 0, .slice [] .clip, .slice [] .clip, .slice [] .clip, .slice [] .clip, .slice [] .clip] : List AV).length = 17 := rfl
  rw [ev_enter (n := n) (show E.ok 12 = true from rfl) Tryz.func12 rfi_b (Nat.le_of_ble_eq_true rfl) (by decide +kernel)]
  cases q : ixF (fun r => r.nm == s) l with
  | none =>
    have hf := fin_flat (v := .tup [rt0.emb, .bool false]) (by have := flat_rt rt0; simp [AV.flat, AV.flatL, this]) S
    simp only [rt0, Rt.emb, Rt.cells, X.cells, upL, duL, embL, List.map_nil, tokOf, List.cons_append, List.nil_append] at hf
    obtain ⟨F, hF, hR⟩ := rfi_all0 n l tk s S _ hs hz hn (fun i hi => by rw [ixF_none q i hi]; rfl)
    simp only [rfi_I0] at hF hR
    simp (disch := first | (simp [upd]; done) | omega | assumption) [AV.cells?, AV.isCell, rfi_p0, rfi_p1, rfi_p2, cutC, bodyOf, Tryz.f12, rtL_len, hF, hR, finRet, hf, rt0, Rt.emb, Rt.cells, X.cells, upL, duL, embL, tokOf]
  | some j =>
    obtain ⟨hj, q1, q2⟩ := ixF_some q
    obtain ⟨F, hF, hR⟩ := rfi_some0 n l tk s S _ hs hz j hj (by omega) (fun i hi => by rw [q2 i hi]; rfl) (by rw [q1]; rfl)
    have hg : l.getD j rt0 = l[j] := by simp [List.getD, hj]
    simp only [hg]
    have hfl := flat_rt l[j]
    simp only [rfi_I0] at hF hR
    generalize l[j] = x at *
    have hf := fin_flat (v := .tup [x.emb, .bool true]) (by simp [AV.flat, AV.flatL, hfl]) S
    obtain ⟨na, ⟨k1, m1, x1, l1, u1, t1, s1⟩, ⟨k2, m2, x2, l2, u2, t2, s2⟩, ⟨ba, tba⟩, ⟨da, tda⟩, ⟨aa, taa⟩, ⟨ua, tua⟩⟩ := x
    simp only [Rt.emb, Rt.cells, X.cells, List.cons_append, List.nil_append] at hR hf ⊢
    simp (disch := first | (simp [upd]; done) | omega | assumption) [AV.cells?, AV.isCell, rfi_p0, rfi_p1, rfi_p2, cutC, bodyOf, Tryz.f12, hF, hR, finRet, hf]
end Go.Proofs.YtcpoinfdnimanaaGreatDoor.PO
/- How much a policy has to remember (bound.Cells, policy.Cells), evaluated. No condition. -/
namespace Go.Proofs.YtcpoinfdnimanaaGreatDoor.PO
set_option linter.unusedVariables false
set_option linter.unusedSimpArgs false
open Go AE EX PT NF
set_option maxRecDepth 100000

def looksB (k : Int) : Bool := k == 22 || k == 23 || k == 24 || k == 13 || k == 25
theorem or5 (a b c d : Bool) : a = true ∨ (a = false ∧ b = true) ∨ (a = false ∧ b = false ∧ c = true) ∨ (a = false ∧ b = false ∧ c = false ∧ d = true) ∨ (a = false ∧ b = false ∧ c = false ∧ d = false) := by
  cases a <;> cases b <;> cases c <;> cases d <;> simp
theorem ev_looks (n : Nat) (k : Int) (S : St) : ev Tryz.prog E (n + 1) 79 [.int .i64 k] S = some (.ret (.bool (looksB k)), S) := by
  unfold looksB
  generalize h1 : (k == 22) = c1
  generalize h2 : (k == 23) = c2
  generalize h3 : (k == 24) = c3
  generalize h4 : (k == 13) = c4
  generalize h5 : (k == 25) = c5
  rw [ev_enter (n := n) (show E.ok 79 = true from rfl) Tryz.func79 (fn := Tryz.f79) rfl (Nat.le_of_ble_eq_true rfl) (by decide +kernel)]
  rcases or5 c1 c2 c3 c4 with rfl | ⟨rfl, rfl⟩ | ⟨rfl, rfl, rfl⟩ | ⟨rfl, rfl, rfl, rfl⟩ | ⟨rfl, rfl, rfl, rfl⟩ <;> cases c5 <;>
    simp (disch := first | (simp only [List.length_append, List.length_cons, List.length_nil]; omega) | (simp; done) | assumption) [AV.cells?, AV.isCell, Tryz.f79, h1, h2, h3, h4, h5]
theorem ev_Looks (n : Nat) (k : Int) (S : St) : ev Tryz.prog E (n + 1) 42 [.int .i64 k] S = some (.ret (.bool (looksB k)), S) := by
  have e : looksB k = (k == 22 || k == 23 || k == 24 || k == 25 || k == 13) := by
    unfold looksB
    cases (k == 22) <;> cases (k == 23) <;> cases (k == 24) <;> cases (k == 25) <;> cases (k == 13) <;> rfl
  rw [e]
  generalize h1 : (k == 22) = c1
  generalize h2 : (k == 23) = c2
  generalize h3 : (k == 24) = c3
  generalize h4 : (k == 13) = c4
  generalize h5 : (k == 25) = c5
  rw [ev_enter (n := n) (show E.ok 42 = true from rfl) Tryz.func42 (fn := Tryz.f42) rfl (Nat.le_of_ble_eq_true rfl) (by decide +kernel)]
  rcases or5 c1 c2 c3 c5 with rfl | ⟨rfl, rfl⟩ | ⟨rfl, rfl, rfl⟩ | ⟨rfl, rfl, rfl, rfl⟩ | ⟨rfl, rfl, rfl, rfl⟩ <;>
    simp (disch := first | (simp only [List.length_append, List.length_cons, List.length_nil]; omega) | (simp; done) | assumption) [AV.cells?, AV.isCell, Tryz.f42, h1, h2, h3, h4, h5]

/-! ### a count that is kept outside -/
def setI (S : St) (h : Nat) (a : Int) : St := ⟨S.H.set h ⟨3, [.int .i64 a]⟩, S.T⟩
theorem setI_get {S : St} {h : Nat} (hh : h < S.H.length) (a : Int) : (setI S h a).H[h]? = some ⟨3, [.int .i64 a]⟩ := by simp [setI, hh]
theorem setI_set (S : St) (h : Nat) (a b : Int) : (⟨(setI S h a).H.set h ⟨3, [.int .i64 b]⟩, (setI S h a).T⟩ : St) = setI S h b := by simp [setI]
theorem setI_fin (S : St) (h : Nat) (a b : Int) : finish (setI S h a) (.tup []) (setI S h b) = some (.tup [], setI S h b) := fin0 (by simp [setI]) rfl
def kOf : X → Int
  | .mk k _ _ _ _ _ _ => k
/-- how many that look back are in it -/
def cnt (x : X) : Nat := (x.nodes.filter fun y => looksB (kOf y)).length
theorem ev_meet (n : Nat) (x : X) (S : St) (h : Nat) (hh : h < S.H.length) (a : Int) (ha : 0 ≤ a ∧ a ≤ 4611686018427387904) :
    ev Tryz.prog E (n + 2) 78 [x.emb, .ptr h 0] (setI S h a) = some (.ret (.tup []), setI S h (a + ((looksB (kOf x)).toNat : Nat))) := by
  obtain ⟨k, nm, b, lo, hi, tk, ks⟩ := x
  have e := ev_looks n k (setI S h a)
  have hg := setI_get hh a
  have hw : IntKind.i64.wrap (a + 1) = a + 1 := wrap64 _ (by omega)
  have hf1 := setI_fin S h a a
  have hf2 := setI_fin S h a (a + 1)
  simp only [X.emb, kOf]
  rcases Bool.eq_false_or_eq_true (looksB k) with q | q <;> rw [q] at e <;> rw [ev_enter (n := n + 1) (show E.ok 78 = true from rfl) Tryz.func78 (fn := Tryz.f78) rfl (Nat.le_of_ble_eq_true rfl) (by decide +kernel)] <;> simp (disch := first | (simp only [List.length_append, List.length_cons, List.length_nil]; omega) | (simp; done) | assumption) [AV.cells?, AV.isCell, Tryz.f78, e, hg, hw, q, finRet, hf1, hf2, AV.sealedL, AV.sealed, setI_set]
def cntL (l : List X) : Nat := ((nodesL l).filter fun y => looksB (kOf y)).length
theorem cnt_size (x : X) : cnt x ≤ x.size := Nat.le_trans (List.length_filter_le _ _) (nodes_size x)
theorem cntL_append (a b : List X) : cntL (a ++ b) = cntL a + cntL b := by simp [cntL, nodesL_append]
theorem cntL_one (x : X) : cntL [x] = cnt x := by simp [cntL, cnt, nodesL]
theorem cnt_mk (k : Int) (nm : List UInt8) (a lo hi : Int) (tk : Bool) (ks : List X) : cnt (.mk k nm a lo hi tk ks) = (looksB k).toNat + (if k == 4 then 0 else cntL ks) := by
  unfold cnt cntL
  simp only [X.nodes]
  by_cases h4 : k = 4
  · subst h4; rfl
  · have : (k == 4) = false := by simpa using h4
    simp only [this, h4, Bool.false_eq_true, if_false, List.filter_cons, kOf]
    cases looksB k <;> simp [Bool.toNat] <;> omega

noncomputable def wlk_p0 : Code := cutC (bodyOf Tryz.f77) [0]
noncomputable def wlk_p1 : Code := cutC (bodyOf Tryz.f77) [1, 0]
noncomputable def wlk_p2 : Code := cutC (bodyOf Tryz.f77) [1, 1, 0]
noncomputable def wlk_p3 : Code := cutC (bodyOf Tryz.f77) [1, 1, 1, 0]
noncomputable def wlk_L0 : Code := cutC (bodyOf Tryz.f77) [1, 1, 1, 1, 0, 0]
theorem wlk_b : Tryz.f77.body = some (.seq wlk_p0 (.seq wlk_p1 (.seq wlk_p2 (.seq wlk_p3 (.block 0 (.loop wlk_L0)))))) := rfl
/-- ahead of a round -/
def wlk_I0 (n : Nat) (x : X) (ks : List X) (tk : Bool) (S0 : St) (bx : Nat) (a : Nat) (g : FuncId) (i : Nat) (fs : FS) : Prop :=
  fs.t 1 = .fn g [] [.ptr bx 0] ∧ fs.t 13 = .slice (embL ks) (tokOf tk) ∧ fs.t 14 = .int .i64 ks.length ∧ fs.t 15 = .int .i64 (i : Nat) ∧ fs.S = setI S0 bx ((a + cntL (ks.take i) : Nat) : Int)
theorem wlk_go0 (n : Nat) (x : X) (ks : List X) (tk : Bool) (S0 : St) (bx : Nat) (a : Nat) (g : FuncId) (hs : ks.length ≤ 1048576) (hh : bx < S0.H.length) (hrec : ∀ (i : Nat) (hi : i < ks.length), ev Tryz.prog E n 77 [ks[i].emb, .fn g [] [.ptr bx 0]] (setI S0 bx ((a + cntL (ks.take i) : Nat) : Int)) = some (.ret (.tup []), setI S0 bx ((a + cntL (ks.take (i + 1)) : Nat) : Int))) (i : Nat) (hi : i < ks.length) (fs : FS) (h : wlk_I0 n x ks tk S0 bx a g i fs) :
    ∃ fs', (evCode ⟨Tryz.prog, E.esc 77, n⟩ (ev Tryz.prog E n) (E.ps 77) n wlk_L0) fs = some (.norm, fs') ∧ wlk_I0 n x ks tk S0 bx a g (i + 1) fs' := by
  obtain ⟨tF, bF, cF, SF⟩ := fs
  obtain ⟨h1, h2, h3, h4, h5⟩ := id h
  simp only at h1 h2 h3 h4 h5
  subst h5
  have hiz : (i : Int) < (ks.length : Nat) := by omega
  have hw : IntKind.i64.wrap ((i : Int) + 1) = (i : Int) + 1 := wrap64 _ (by omega)
  have hr := hrec i hi
  have hxa : (embL ks)[i]? = some ks[i].emb := by rw [embL_map, List.getElem?_map, List.getElem?_eq_getElem hi]; rfl
  have hlen := embL_length ks
  generalize ks[i] = y at *
  obtain ⟨k, nm, b, lo, hi2, tk', ks'⟩ := y
  simp only [X.emb] at hxa hr
  generalize ((a + cntL (ks.take i) : Nat) : Int) = c1 at *
  generalize hc2 : ((a + cntL (ks.take (i + 1)) : Nat) : Int) = c2 at *
  all_goals (
  refine ⟨_, by
    simp (disch := first | (simp only [List.length_append, List.length_cons, List.length_nil]; omega) | (simp [h1, h2, h3, h4]; done) | assumption) [AV.cells?, AV.isCell, wlk_L0, cutC, bodyOf, Tryz.f77, h1, h2, h3, h4, hi, hiz, hr, hxa, hlen]
    rfl, ?_⟩
  simp [wlk_I0, upd, h1, h2, h3, h4, hw, hc2])
theorem wlk_end0 (n : Nat) (x : X) (ks : List X) (tk : Bool) (S0 : St) (bx : Nat) (a : Nat) (g : FuncId) (hs : ks.length ≤ 1048576) (hh : bx < S0.H.length) (hrec : ∀ (i : Nat) (hi : i < ks.length), ev Tryz.prog E n 77 [ks[i].emb, .fn g [] [.ptr bx 0]] (setI S0 bx ((a + cntL (ks.take i) : Nat) : Int)) = some (.ret (.tup []), setI S0 bx ((a + cntL (ks.take (i + 1)) : Nat) : Int))) (fs : FS) (h : wlk_I0 n x ks tk S0 bx a g (ks.length) fs) : ∃ fs', (evCode ⟨Tryz.prog, E.esc 77, n⟩ (ev Tryz.prog E n) (E.ps 77) n wlk_L0) fs = some (.exit 0, fs') ∧ wlk_I0 n x ks tk S0 bx a g (ks.length) fs' := by
  obtain ⟨tF, bF, cF, SF⟩ := fs
  obtain ⟨h1, h2, h3, h4, h5⟩ := id h
  simp only at h1 h2 h3 h4 h5
  subst h5
  refine ⟨_, by
    simp (disch := first | (simp only [List.length_append, List.length_cons, List.length_nil]; omega) | (simp; done) | assumption) [AV.cells?, AV.isCell, wlk_L0, cutC, bodyOf, Tryz.f77, h1, h2, h3, h4, embL_length]
    rfl, ?_⟩
  simp only [wlk_I0, upd] at h ⊢
  simpa using h
theorem wlk_all0 (n : Nat) (x : X) (ks : List X) (tk : Bool) (S0 : St) (bx : Nat) (a : Nat) (g : FuncId) (hs : ks.length ≤ 1048576) (hh : bx < S0.H.length) (hrec : ∀ (i : Nat) (hi : i < ks.length), ev Tryz.prog E n 77 [ks[i].emb, .fn g [] [.ptr bx 0]] (setI S0 bx ((a + cntL (ks.take i) : Nat) : Int)) = some (.ret (.tup []), setI S0 bx ((a + cntL (ks.take (i + 1)) : Nat) : Int))) (hn : ks.length < n) : ∃ F : FS → FS, (∀ fs, wlk_I0 n x ks tk S0 bx a g 0 fs → iter n (evCode ⟨Tryz.prog, E.esc 77, n⟩ (ev Tryz.prog E n) (E.ps 77) n wlk_L0) fs = some (.exit 0, F fs)) ∧ ∀ fs, wlk_I0 n x ks tk S0 bx a g 0 fs → wlk_I0 n x ks tk S0 bx a g (ks.length) (F fs) :=
  for_all (wlk_I0 n x ks tk S0 bx a g) 0 (ks.length) hn (fun i hi fs h => wlk_go0 n x ks tk S0 bx a g hs hh hrec i hi fs h) (fun fs h => wlk_end0 n x ks tk S0 bx a g hs hh hrec fs h)
theorem ev_walk : ∀ (m : Nat) (x : X), x.size ≤ m → m ≤ 1048576 → ∀ n, m + 3 ≤ n → ∀ (S : St) (h : Nat) (a : Nat), h < S.H.length → a + x.size ≤ 4611686018427387904 →
    ev Tryz.prog E n 77 [x.emb, .fn 78 [] [.ptr h 0]] (setI S h (a : Int)) = some (.ret (.tup []), setI S h ((a + cnt x : Nat) : Int))
  | 0, x, hm, _, _, _, _, _, _, _, _ => absurd hm (by have := size_pos x; omega)
  | m + 1, x, hm, hmm, n, hn, S, h, a, hh, ha => by
    have hsx := size_pos x
    obtain ⟨n, rfl⟩ : ∃ k, n = k + 3 := ⟨n - 3, by omega⟩
    have e0 := ev_meet n x S h hh (a : Int) ⟨by omega, by omega⟩
    obtain ⟨k, nm, b, lo, hi, tk, kids⟩ := x
    simp only [X.size] at hm ha hsx
    have hl := sizeL_length kids
    have hlen := embL_length kids
    rw [cnt_mk]
    simp only [kOf] at e0
    rw [← Nat.add_assoc]
    have hc1 : (looksB k).toNat ≤ 1 := by cases looksB k <;> simp
    generalize (looksB k).toNat = c1 at *
    rw [show (a : Int) + (c1 : Nat) = ((a + c1 : Nat) : Int) by omega] at e0
    have e0' := e0
    simp only [X.emb] at e0 ⊢
    rw [ev_enter (n := n + 2) (show E.ok 77 = true from rfl) Tryz.func77 wlk_b (Nat.le_of_ble_eq_true rfl) (by decide +kernel)]
    have hfin := fun b => setI_fin S h (a : Int) b
    cases h4 : (k == 4)
    · obtain ⟨F, hF, hR⟩ := wlk_all0 (n + 2) (.mk k nm b lo hi tk kids) kids tk S h (a + c1) 78 (by omega) hh (fun i hi => by
        have h1 := sizeL_mem (List.getElem_mem hi)
        have h2 : cntL (kids.take (i + 1)) = cntL (kids.take i) + cnt kids[i] := by
          rw [List.take_add_one, List.getElem?_eq_getElem hi]
          simp only [Option.toList, cntL_append, cntL_one]
        have h3 : cntL (kids.take i) ≤ sizeL (kids.take i) := Nat.le_trans (List.length_filter_le _ _) (nodesL_size _)
        have h4 : sizeL (kids.take i) + kids[i].size ≤ sizeL kids := by
          have e1 := sizeL_append (kids.take (i + 1)) (kids.drop (i + 1))
          rw [List.take_append_drop, List.take_add_one, List.getElem?_eq_getElem hi, sizeL_append] at e1
          simp only [Option.toList, sizeL] at e1
          omega
        rw [h2, ← Nat.add_assoc]
        exact ev_walk m kids[i] (by omega) (by omega) (n + 2) (by omega) S h _ hh (by omega)) (by omega)
      simp only [wlk_I0, List.take_zero, List.take_length, show cntL [] = 0 from rfl, Nat.add_zero] at hF hR
      simp (disch := first | (simp [upd]; done) | omega | assumption) [AV.cells?, AV.isCell, wlk_p0, wlk_p1, wlk_p2, wlk_p3, cutC, bodyOf, Tryz.f77, e0, h4, hlen, hF, hR, finRet, hfin]
    · simp (disch := first | (simp [upd]; done) | omega | assumption) [AV.cells?, AV.isCell, wlk_p0, wlk_p1, wlk_p2, wlk_p3, cutC, bodyOf, Tryz.f77, e0, h4, finRet, hfin]
theorem ev_bCells (n : Nat) (x : X) (hs : x.size ≤ 1048576) (hn : x.size + 4 ≤ n) (S : St) : ev Tryz.prog E (n + 1) 40 [x.emb] S = some (.ret (.int .i64 (cnt x : Nat)), S) := by
  have e1 := ev_walk _ x (Nat.le_refl _) hs n (by omega) ⟨S.H ++ [⟨3, [.int .i64 0]⟩], S.T⟩ S.H.length 0 (by simp) (by omega)
  have s0 : setI ⟨S.H ++ [⟨3, [.int .i64 0]⟩], S.T⟩ S.H.length ((0 : Nat) : Int) = ⟨S.H ++ [⟨3, [.int .i64 0]⟩], S.T⟩ := by simp [setI]
  have s1 : ∀ a, setI ⟨S.H ++ [⟨3, [.int .i64 0]⟩], S.T⟩ S.H.length a = ⟨S.H ++ [⟨3, [.int .i64 a]⟩], S.T⟩ := fun a => by simp [setI]
  rw [s0, s1, Nat.zero_add] at e1
  have hf := @fin_drop1 S [⟨3, [.int .i64 (cnt x : Nat)]⟩] (.int .i64 (cnt x : Nat)) rfl
  generalize ((cnt x : Nat) : Int) = c at *
  obtain ⟨k, nm, b, lo, hi, tk, kids⟩ := x
  simp only [X.emb] at e1 ⊢
  rw [ev_enter (n := n) (show E.ok 40 = true from rfl) Tryz.func40 (fn := Tryz.f40) rfl (Nat.le_of_ble_eq_true rfl) (by decide +kernel)]
  simp (disch := first | (simp only [List.length_append, List.length_cons, List.length_nil]; omega) | (simp; done) | assumption) [AV.cells?, AV.isCell, Tryz.f40, e1, AV.sealedL, AV.sealed, finRet, hf]

def maxC (l : List Rt) : Nat := l.foldl (fun m r => max m (cnt r.on)) 0
theorem maxC_snoc (l : List Rt) (r : Rt) : maxC (l ++ [r]) = max (maxC l) (cnt r.on) := by simp [maxC]
noncomputable def pce_p0 : Code := cutC (bodyOf Tryz.f16) [0]
noncomputable def pce_p1 : Code := cutC (bodyOf Tryz.f16) [1, 0]
noncomputable def pce_p2 : Code := cutC (bodyOf Tryz.f16) [1, 1, 0, 0]
noncomputable def pce_L0 : Code := cutC (bodyOf Tryz.f16) [1, 1, 0, 1, 0, 0]
noncomputable def pce_p3 : Code := cutC (bodyOf Tryz.f16) [1, 1, 1]
theorem pce_b : Tryz.f16.body = some (.seq pce_p0 (.seq pce_p1 (.seq (.seq pce_p2 (.block 0 (.loop pce_L0))) pce_p3))) := rfl
/-- ahead of a round -/
def pce_I0 (n : Nat) (l : List Rt) (tk : Tok) (d : AV) (S0 : St) (i : Nat) (fs : FS) : Prop :=
  fs.t 3 = .int .i64 ((maxC (l.take i) : Nat) : Int) ∧ fs.t 7 = .slice (rtL l) tk ∧ fs.t 8 = .int .i64 l.length ∧ fs.t 9 = .int .i64 (i : Nat) ∧ fs.S = S0
theorem pce_go0 (n : Nat) (l : List Rt) (tk : Tok) (d : AV) (S0 : St) (hs : l.length ≤ 1048576) (hrec : ∀ (i : Nat) (hi : i < l.length), ev Tryz.prog E n 40 [l[i].on.emb] S0 = some (.ret (.int .i64 (cnt l[i].on : Nat)), S0)) (i : Nat) (hi : i < l.length) (fs : FS) (h : pce_I0 n l tk d S0 i fs) :
    ∃ fs', (evCode ⟨Tryz.prog, E.esc 16, n⟩ (ev Tryz.prog E n) (E.ps 16) n pce_L0) fs = some (.norm, fs') ∧ pce_I0 n l tk d S0 (i + 1) fs' := by
  obtain ⟨tF, bF, cF, SF⟩ := fs
  obtain ⟨h1, h2, h3, h4, h5⟩ := id h
  simp only at h1 h2 h3 h4 h5
  subst h5
  have hiz : (i : Int) < (l.length : Nat) := by omega
  have hw : IntKind.i64.wrap ((i : Int) + 1) = (i : Int) + 1 := wrap64 _ (by omega)
  have hr := hrec i hi
  have hxa := rtL_get l hi
  have hsp : ((maxC (l.take (i + 1)) : Nat) : Int) = if ((cnt l[i].on : Nat) : Int) > ((maxC (l.take i) : Nat) : Int) then ((cnt l[i].on : Nat) : Int) else ((maxC (l.take i) : Nat) : Int) := by
    rw [List.take_add_one, List.getElem?_eq_getElem hi]
    simp only [Option.toList, maxC_snoc]
    split <;> omega
  generalize hc : ((maxC (l.take (i + 1)) : Nat) : Int) = c1 at *
  generalize ((maxC (l.take i) : Nat) : Int) = c2 at *
  generalize ((cnt l[i].on : Nat) : Int) = c3 at *
  generalize l[i] = x at *
  obtain ⟨na, ⟨k1, m1, x1, l1, u1, t1, s1⟩, ⟨k2, m2, x2, l2, u2, t2, s2⟩, ⟨ba, tba⟩, ⟨da, tda⟩, ⟨aa, taa⟩, ⟨ua, tua⟩⟩ := x
  simp only [Rt.emb, Rt.cells, X.cells, List.cons_append, List.nil_append] at hxa
  simp only [X.emb] at hr
  all_goals (
  refine ⟨_, by
    simp (disch := first | (simp only [List.length_append, List.length_cons, List.length_nil]; omega) | (simp [h1, h2, h3, h4]; done) | assumption) [AV.cells?, AV.isCell, pce_L0, cutC, bodyOf, Tryz.f16, h1, h2, h3, h4, hi, hiz, hr, hxa, rtL_len]
    rfl, ?_⟩
  simp [pce_I0, upd, h1, h2, h3, h4, hw, hc, hsp])
theorem pce_end0 (n : Nat) (l : List Rt) (tk : Tok) (d : AV) (S0 : St) (hs : l.length ≤ 1048576) (hrec : ∀ (i : Nat) (hi : i < l.length), ev Tryz.prog E n 40 [l[i].on.emb] S0 = some (.ret (.int .i64 (cnt l[i].on : Nat)), S0)) (fs : FS) (h : pce_I0 n l tk d S0 (l.length) fs) : ∃ fs', (evCode ⟨Tryz.prog, E.esc 16, n⟩ (ev Tryz.prog E n) (E.ps 16) n pce_L0) fs = some (.exit 0, fs') ∧ pce_I0 n l tk d S0 (l.length) fs' := by
  obtain ⟨tF, bF, cF, SF⟩ := fs
  obtain ⟨h1, h2, h3, h4, h5⟩ := id h
  simp only at h1 h2 h3 h4 h5
  subst h5
  refine ⟨_, by
    simp (disch := first | (simp only [List.length_append, List.length_cons, List.length_nil]; omega) | (simp; done) | assumption) [AV.cells?, AV.isCell, pce_L0, cutC, bodyOf, Tryz.f16, h1, h2, h3, h4, rtL_len]
    rfl, ?_⟩
  simp only [pce_I0, upd] at h ⊢
  simpa using h
theorem pce_all0 (n : Nat) (l : List Rt) (tk : Tok) (d : AV) (S0 : St) (hs : l.length ≤ 1048576) (hrec : ∀ (i : Nat) (hi : i < l.length), ev Tryz.prog E n 40 [l[i].on.emb] S0 = some (.ret (.int .i64 (cnt l[i].on : Nat)), S0)) (hn : l.length < n) : ∃ F : FS → FS, (∀ fs, pce_I0 n l tk d S0 0 fs → iter n (evCode ⟨Tryz.prog, E.esc 16, n⟩ (ev Tryz.prog E n) (E.ps 16) n pce_L0) fs = some (.exit 0, F fs)) ∧ ∀ fs, pce_I0 n l tk d S0 0 fs → pce_I0 n l tk d S0 (l.length) (F fs) :=
  for_all (pce_I0 n l tk d S0) 0 (l.length) hn (fun i hi fs h => pce_go0 n l tk d S0 hs hrec i hi fs h) (fun fs h => pce_end0 n l tk d S0 hs hrec fs h)
theorem ev_pCells (n : Nat) (p : Pl) (hs : p.size ≤ 1048576) (hn : p.size + 6 ≤ n) (S : St) : ev Tryz.prog E (n + 1) 16 [p.emb] S = some (.ret (.int .i64 (maxC p.rights.l : Nat)), S) := by
  obtain ⟨n, rfl⟩ : ∃ k, n = k + 1 := ⟨n - 1, by omega⟩
  obtain ⟨⟨da, tda⟩, ⟨ra, tra⟩⟩ := p
  simp only [Pl.size] at hs hn
  have h1 := rts_len ra
  obtain ⟨F, hF, hR⟩ := pce_all0 (n + 1) ra (tokOf tra) .nilp S (by omega) (fun i hi => by
    have h2 := rts_mem (List.getElem_mem hi)
    generalize ra[i] = x at *
    have h3 : x.on.size ≤ x.size := by simp only [Rt.size]; omega
    exact ev_bCells n x.on (by omega) (by omega) S) (by omega)
  simp only [pce_I0, List.take_zero, List.take_length, show maxC [] = 0 from rfl] at hF hR
  simp only [Pl.emb]
  rw [ev_enter (n := n + 1) (show E.ok 16 = true from rfl) Tryz.func16 pce_b (Nat.le_of_ble_eq_true rfl) (by decide +kernel)]
  simp (disch := first | (simp [upd]; done) | omega | assumption) [AV.cells?, AV.isCell, pce_p0, pce_p1, pce_p2, pce_p3, cutC, bodyOf, Tryz.f16, rtL_len, hF, hR]
end Go.Proofs.YtcpoinfdnimanaaGreatDoor.PO
/- The reference's Check, evaluated (made by genck.py). No condition. -/
namespace Go.Proofs.YtcpoinfdnimanaaGreatDoor.CK
set_option linter.unusedVariables false
set_option linter.unusedSimpArgs false
open Go AE EX PT
set_option maxRecDepth 100000


theorem ev_head (n : Nat) (c : Int) (S : St) : ev Tryz.prog E (n + 1) 68 [.int .u8 c] S = some (.ret (.bool (headB c)), S) := by
  rw [ev_enter (n := n) (show E.ok 68 = true from rfl) Tryz.func68 (fn := Tryz.f68) rfl (Nat.le_of_ble_eq_true rfl) (by decide +kernel)]
  cases h1 : decide (97 ≤ c) <;> cases h2 : decide (c ≤ 122) <;> cases h3 : decide (65 ≤ c) <;> cases h4 : decide (c ≤ 90) <;> cases h5 : c == 95 <;>
    simp (disch := first | (simp only [List.length_append, List.length_cons, List.length_nil]; omega) | (simp; done) | assumption) [AV.cells?, AV.isCell, Tryz.f68, bq5, headB, h1, h2, h3, h4, h5]
theorem ev_tail (n : Nat) (c : Int) (S : St) : ev Tryz.prog E (n + 2) 69 [.int .u8 c] S = some (.ret (.bool (tailB c)), S) := by
  have hh := ev_head n c S
  rw [show n + 2 = (n + 1) + 1 from rfl, ev_enter (n := n + 1) (show E.ok 69 = true from rfl) Tryz.func69 (fn := Tryz.f69) rfl (Nat.le_of_ble_eq_true rfl) (by decide +kernel)]
  cases h0 : headB c <;> rw [h0] at hh <;> cases h1 : decide (48 ≤ c) <;> cases h2 : decide (c ≤ 57) <;>
    simp (disch := first | (simp only [List.length_append, List.length_cons, List.length_nil]; omega) | (simp; done) | assumption) [AV.cells?, AV.isCell, Tryz.f69, bq5, tailB, h0, h1, h2, hh]

/-! ### a text -/
noncomputable def pLoop : Code := cutC (bodyOf Tryz.f167) [1, 1, 0, 1, 0, 0]
noncomputable def pl0 : Code := cutC (bodyOf Tryz.f167) [0]
noncomputable def pl1 : Code := cutC (bodyOf Tryz.f167) [1, 0]
noncomputable def pl2 : Code := cutC (bodyOf Tryz.f167) [1, 1, 0, 0]
noncomputable def pl3 : Code := cutC (bodyOf Tryz.f167) [1, 1, 1]
theorem f54b : Tryz.f167.body = some (.seq pl0 (.seq pl1 (.seq (.seq pl2 (.block 0 (.loop pLoop))) pl3))) := rfl

theorem plain_round (n : Nat) (s : List UInt8) (S0 : St) (hs : s.length ≤ 32) (m : Nat) (fs : FS) (h : PI s S0 m fs) :
    ∃ o fs', evCode ⟨Tryz.prog, E.esc 167, n⟩ (ev Tryz.prog E n) (E.ps 167) n pLoop fs = some (o, fs') ∧ ((o = .norm ∧ ∃ m', m' < m ∧ PI s S0 m' fs') ∨ (o ≠ .norm ∧ PQ s S0 (o, fs'))) := by
  obtain ⟨t, b, v, S⟩ := fs
  obtain ⟨i, hi, h1, h2, h3, h4⟩ := h
  simp at h1 h2 h3
  subst h3
  cases m with
  | zero =>
    have hi : i = s.length := by omega
    subst hi
    refine ⟨.exit 0, _, by
      simp (disch := first | (simp only [List.length_append, List.length_cons, List.length_nil]; omega) | (simp; done) | assumption) [AV.cells?, AV.isCell, pLoop, cutC, bodyOf, Tryz.f167, h1, h2, bq3, sq9]
      rfl, .inr ⟨by simp, rfl, .inl ⟨rfl, by simpa using h4⟩⟩⟩
  | succ m =>
    have hlt : i < s.length := by omega
    have hxe : s[i]? = some s[i] := List.getElem?_eq_getElem hlt
    have hmem : s[i] ∈ s := List.getElem_mem hlt
    have htake : s.take (i + 1) = s.take i ++ [s[i]] := by rw [List.take_add_one, hxe]; rfl
    have hw : IntKind.i64.wrap ((i : Int) + 1) = (i : Int) + 1 := wrap64 _ (by omega)
    have bad : badB s[i] = true → s.all (fun c => !badB c) = false := fun hb => by
      rw [List.all_eq_false]
      exact ⟨_, hmem, by simp [hb]⟩
    have good : badB s[i] = false → (s.take (i + 1)).all (fun c => !badB c) = true := fun hb => by
      rw [htake, List.all_append, h4]; simp [hb]
    cases e1 : ((s[i].toNat : Int) == 34)
    · cases e2 : ((s[i].toNat : Int) == 10)
      · refine ⟨.norm, _, by
          simp (disch := first | (simp only [List.length_append, List.length_cons, List.length_nil]; omega) | (simp; done) | assumption) [AV.cells?, AV.isCell, pLoop, cutC, bodyOf, Tryz.f167, h1, h2, bq3, sq9, hlt, hxe, bq5, e1, e2]
          rfl, .inl ⟨rfl, m, by omega, i + 1, by omega, by simp [upd, h1], by simp [upd, hw], rfl, good (by simp [badB, e1, e2])⟩⟩
      · refine ⟨.ret, _, by
          simp (disch := first | (simp only [List.length_append, List.length_cons, List.length_nil]; omega) | (simp; done) | assumption) [AV.cells?, AV.isCell, pLoop, cutC, bodyOf, Tryz.f167, h1, h2, bq3, sq9, hlt, hxe, bq5, e1, e2]
          rfl, .inr ⟨by simp, rfl, .inr ⟨rfl, by simp [upd], bad (by simp [badB, e1, e2])⟩⟩⟩
    · refine ⟨.ret, _, by
        simp (disch := first | (simp only [List.length_append, List.length_cons, List.length_nil]; omega) | (simp; done) | assumption) [AV.cells?, AV.isCell, pLoop, cutC, bodyOf, Tryz.f167, h1, h2, bq3, sq9, hlt, hxe, bq5, e1]
        rfl, .inr ⟨by simp, rfl, .inr ⟨rfl, by simp [upd], bad (by simp [badB, e1])⟩⟩⟩

theorem ev_Plain (n : Nat) (hn : 33 ≤ n) (s : List UInt8) (S : St) : ev Tryz.prog E (n + 1) 167 [.str s] S = some (.ret (.bool (plainB s)), S) := by
  rw [ev_enter (n := n) (show E.ok 167 = true from rfl) Tryz.func167 f54b (Nat.le_of_ble_eq_true rfl) (by decide +kernel)]
  by_cases hs : s.length ≤ 32
  · obtain ⟨⟨o, t, b, v, S'⟩, hr, hS, hq⟩ := iter_meas (fun m fs h => plain_round n s S hs m fs h) s.length n ⟨upd 3 (.int .i64 0) (upd 6 (.bool false) (upd 5 (.int .i64 s.length) (upd 4 (.str s) (upd 2 (.bool false) (argsA [.str s]))))), fun _ => (0, []), 5, S⟩ (by omega)
      ⟨0, by omega, by simp [upd, argsA], by simp [upd], rfl, by simp⟩
    simp at hS hq
    subst hS
    have h32 : ¬ (32 : Int) < s.length := by omega
    have h32' : ¬ 32 < s.length := by omega
    rcases hq with ⟨rfl, ha⟩ | ⟨rfl, h2, ha⟩
    · have hp : plainB s = true := by simp [plainB, hs]; exact ha
      simp (disch := first | (simp only [List.length_append, List.length_cons, List.length_nil]; omega) | (simp; done) | assumption) [AV.cells?, AV.isCell, pl0, pl1, pl2, pl3, cutC, bodyOf, Tryz.f167, bq3, sq9, h32, h32', hr, hp]
    · have hp : plainB s = false := by simp [plainB, hs]; simpa using ha
      simp (disch := first | (simp only [List.length_append, List.length_cons, List.length_nil]; omega) | (simp; done) | assumption) [AV.cells?, AV.isCell, pl0, pl1, pl2, pl3, cutC, bodyOf, Tryz.f167, bq3, sq9, h32, h32', hr, hp, h2]
  · have h32 : (32 : Int) < s.length := by omega
    have h32' : 32 < s.length := by omega
    have hp : plainB s = false := by simp [plainB, hs]
    simp (disch := first | (simp only [List.length_append, List.length_cons, List.length_nil]; omega) | (simp; done) | assumption) [AV.cells?, AV.isCell, pl0, pl1, pl2, pl3, cutC, bodyOf, Tryz.f167, bq3, sq9, h32, h32', hp]
end Go.Proofs.YtcpoinfdnimanaaGreatDoor.CK
/- The reference's Check, evaluated (made by genck.py). No condition. -/
namespace Go.Proofs.YtcpoinfdnimanaaGreatDoor.CK
set_option linter.unusedVariables false
set_option linter.unusedSimpArgs false
open Go AE EX PT
set_option maxRecDepth 100000


noncomputable def nLoop : Code := cutC (bodyOf Tryz.f28) [1, 1, 0, 1, 0, 0]
noncomputable def nl0 : Code := cutC (bodyOf Tryz.f28) [0]
noncomputable def nl1 : Code := cutC (bodyOf Tryz.f28) [1, 0]
noncomputable def nl2 : Code := cutC (bodyOf Tryz.f28) [1, 1, 0, 0]
noncomputable def nl3 : Code := cutC (bodyOf Tryz.f28) [1, 1, 1]
theorem f55b : Tryz.f28.body = some (.seq nl0 (.seq nl1 (.seq (.seq nl2 (.block 0 (.loop nLoop))) nl3))) := rfl

theorem name_round (n : Nat) (c : UInt8) (r : List UInt8) (S0 : St) (hs : r.length ≤ 16) (m : Nat) (fs : FS) (h : NI c r S0 m fs) :
    ∃ o fs', evCode ⟨Tryz.prog, E.esc 28, n + 2⟩ (ev Tryz.prog E (n + 2)) (E.ps 28) (n + 2) nLoop fs = some (o, fs') ∧ ((o = .norm ∧ ∃ m', m' < m ∧ NI c r S0 m' fs') ∨ (o ≠ .norm ∧ NQ c r S0 (o, fs'))) := by
  obtain ⟨t, b, v, S⟩ := fs
  obtain ⟨i, hi, h1, h2, h3, h4⟩ := h
  simp only at h1 h2 h3
  subst h3
  cases m with
  | zero =>
    have hi : i = r.length := by omega
    subst hi
    refine ⟨.exit 0, _, by
      simp (disch := first | (simp only [List.length_append, List.length_cons, List.length_nil]; omega) | (simp; done) | assumption) [AV.cells?, AV.isCell, nLoop, cutC, bodyOf, Tryz.f28, h1, h2, bq3, sq9]
      rfl, .inr ⟨by simp, rfl, .inl ⟨rfl, by simpa using h4⟩⟩⟩
  | succ m =>
    have hlt : i < r.length := by omega
    have hxe : r[i]? = some r[i] := List.getElem?_eq_getElem hlt
    have hmem : r[i] ∈ r := List.getElem_mem hlt
    have htake : r.take (i + 1) = r.take i ++ [r[i]] := by rw [List.take_add_one, hxe]; rfl
    have hw : IntKind.i64.wrap (((i + 1 : Nat) : Int) + 1) = ((i + 1 + 1 : Nat) : Int) := by rw [wrap64 _ (by omega)]; omega
    have ht := ev_tail n (r[i].toNat : Int) S
    have hidx : evIndex Tryz.prog 9 (.str (c :: r)) (.int .i64 ((i + 1 : Nat) : Int)) = some (.int .u8 (r[i].toNat : Int)) := by
      simp [evIndex, sq9, hlt]
      omega
    have hlt2 : decide (((i + 1 : Nat) : Int) < ((c :: r).length : Int)) = true := by simp; omega
    have hlt3 : i + 1 < (c :: r).length := by simp; omega
    cases e1 : tailB (r[i].toNat : Int)
    · rw [e1] at ht
      have bad : r.all tl = false := by
        rw [List.all_eq_false]
        exact ⟨_, hmem, by simp [tl, e1]⟩
      refine ⟨.ret, _, by
        simp -implicitDefEqProofs (disch := first | (simp only [List.length_append, List.length_cons, List.length_nil]; omega) | (simp; done) | assumption) [AV.cells?, AV.isCell, -evIndex, -Int.natCast_add, -List.length_cons, nLoop, cutC, bodyOf, Tryz.f28, h1, h2, bq3, sq9, hidx, hlt2, hlt3, ht]
        rfl, .inr ⟨by simp, rfl, .inr ⟨rfl, by simp [upd], bad⟩⟩⟩
    · rw [e1] at ht
      have good : (r.take (i + 1)).all tl = true := by rw [htake, List.all_append, h4]; simp [tl, e1]
      refine ⟨.norm, _, by
        simp -implicitDefEqProofs (disch := first | (simp only [List.length_append, List.length_cons, List.length_nil]; omega) | (simp; done) | assumption) [AV.cells?, AV.isCell, -evIndex, -Int.natCast_add, -List.length_cons, nLoop, cutC, bodyOf, Tryz.f28, h1, h2, bq3, sq9, hidx, hlt2, hlt3, ht, hw]
        rfl, .inl ⟨rfl, m, by omega, i + 1, by omega, by simp [upd, h1], by simp [upd, hw], rfl, good⟩⟩

theorem ev_Name (n : Nat) (hn : 33 ≤ n) (s : List UInt8) (S : St) : ev Tryz.prog E (n + 3) 28 [.str s] S = some (.ret (.bool (nameB s)), S) := by
  rw [show n + 3 = (n + 2) + 1 from rfl, ev_enter (n := n + 2) (show E.ok 28 = true from rfl) Tryz.func28 f55b (Nat.le_of_ble_eq_true rfl) (by decide +kernel)]
  cases s with
  | nil => simp (disch := first | (simp only [List.length_append, List.length_cons, List.length_nil]; omega) | (simp; done) | assumption) [AV.cells?, AV.isCell, nl0, nl1, nl2, nl3, cutC, bodyOf, Tryz.f28, bq9, bq3, sq9, nameB]
  | cons c r =>
    have hne : ((c :: r) == ([] : List UInt8)) = false := rfl
    by_cases hs : r.length + 1 ≤ 16
    · have h16 : ¬ 16 < r.length + 1 := by omega
      have h16z : ¬ (16 : Int) < (r.length : Int) + 1 := by omega
      have hh : ev Tryz.prog E (n + 2) 68 [.int .u8 (c.toNat : Int)] S = _ := ev_head (n + 1) (c.toNat : Int) S
      have hidx : evIndex Tryz.prog 9 (.str (c :: r)) (.int .i64 0) = some (.int .u8 (c.toNat : Int)) := by simp [evIndex, sq9]
      cases e0 : headB (c.toNat : Int)
      · rw [e0] at hh
        simp (disch := first | (simp only [List.length_append, List.length_cons, List.length_nil]; omega) | (simp; done) | assumption) [AV.cells?, AV.isCell, -evIndex, nl0, nl1, nl2, nl3, cutC, bodyOf, Tryz.f28, bq9, bq3, sq9, nameB, hne, h16, h16z, hidx, hh, e0]
      · rw [e0] at hh
        obtain ⟨⟨o, t, b, v, S'⟩, hr, hS, hq⟩ := iter_meas (fun m fs h => name_round n c r S (by omega) m fs h) r.length (n + 2)
          ⟨upd 3 (.int .i64 1) (upd 16 (.bool false) (upd 15 (.bool false) (upd 14 (.bool true) (upd 13 (.int .u8 (c.toNat : Int)) (upd 12 (.str (c :: r)) (upd 11 (.bool false) (upd 10 (.bool false) (upd 9 (.bool false) (upd 8 (.int .i64 ((r.length : Int) + 1)) (upd 7 (.str (c :: r)) (upd 6 (.bool false) (upd 5 (.bool false) (upd 4 (.str (c :: r)) (upd 2 (.bool false) (argsA [.str (c :: r)]))))))))))))))), fun _ => (0, []), 15, S⟩ (by omega)
          ⟨0, by omega, by simp [upd, argsA], by simp [upd], rfl, by simp⟩
        simp only at hS hq
        subst hS
        rcases hq with ⟨rfl, ha⟩ | ⟨rfl, h2, ha⟩
        · simp (disch := first | (simp only [List.length_append, List.length_cons, List.length_nil]; omega) | (simp; done) | assumption) [AV.cells?, AV.isCell, -evIndex, nl0, nl1, nl2, nl3, cutC, bodyOf, Tryz.f28, bq9, bq3, sq9, nameB, hne, h16, h16z, hidx, hh, e0, hr, ha, hs]
        · simp (disch := first | (simp only [List.length_append, List.length_cons, List.length_nil]; omega) | (simp; done) | assumption) [AV.cells?, AV.isCell, -evIndex, nl0, nl1, nl2, nl3, cutC, bodyOf, Tryz.f28, bq9, bq3, sq9, nameB, hne, h16, h16z, hidx, hh, e0, hr, ha, h2, hs]
    · have h16 : 16 < r.length + 1 := by omega
      have h16z : (16 : Int) < (r.length : Int) + 1 := by omega
      have hs' : decide (r.length + 1 ≤ 16) = false := by simp; omega
      simp (disch := first | (simp only [List.length_append, List.length_cons, List.length_nil]; omega) | (simp; done) | assumption) [AV.cells?, AV.isCell, -evIndex, nl0, nl1, nl2, nl3, cutC, bodyOf, Tryz.f28, bq9, bq3, sq9, nameB, hne, h16, h16z, hs']
      intro h
      omega
end Go.Proofs.YtcpoinfdnimanaaGreatDoor.CK
/- The reference's Check, evaluated (made by genck.py). No condition. -/
namespace Go.Proofs.YtcpoinfdnimanaaGreatDoor.CK
set_option linter.unusedVariables false
set_option linter.unusedSimpArgs false
open Go AE EX PT
set_option maxRecDepth 100000


theorem ev_Kids (n : Nat) (k : Int) (S : St) : ev Tryz.prog E (n + 1) 152 [.int .i64 k] S = some (.ret (.int .i64 (kidsI k)), S) := by
  rw [ev_enter (n := n) (show E.ok 152 = true from rfl) Tryz.func152 (fn := Tryz.f152) rfl (Nat.le_of_ble_eq_true rfl) (by decide +kernel)]
  by_cases h1 : k < 1
  · simp (disch := first | (simp only [List.length_append, List.length_cons, List.length_nil]; omega) | (simp; done) | assumption) [AV.cells?, AV.isCell, Tryz.f152, bq3, kidsI, h1]
  by_cases h2 : 25 < k
  · simp (disch := first | (simp only [List.length_append, List.length_cons, List.length_nil]; omega) | (simp; done) | assumption) [AV.cells?, AV.isCell, Tryz.f152, bq3, kidsI, h1, h2]
  have hk : kinds k := (kinds_iff k).2 (by omega)
  clear h1 h2
  rcases hk with rfl | rfl | rfl | rfl | rfl | rfl | rfl | rfl | rfl | rfl | rfl | rfl | rfl | rfl | rfl | rfl | rfl | rfl | rfl | rfl | rfl | rfl | rfl | rfl | rfl <;>
    simp (disch := first | (simp only [List.length_append, List.length_cons, List.length_nil]; omega) | (simp; done) | assumption) [AV.cells?, AV.isCell, Tryz.f152, bq3, kidsI]


def FitsOut (n : Nat) (k : Int) (nm : List UInt8) (a lo hi : Int) (ks : AV) (S : St) : Prop :=
  ∃ b, ev Tryz.prog E (n + 4) 154 [.agg [.int .i64 k, .str nm, .int .i64 a, .int .i64 lo, .int .i64 hi, ks]] S = some (.ret (.bool b), S) ∧ (b = true ↔ Fits k nm a lo hi)

set_option maxHeartbeats 4000000 in
theorem fits_plain (n : Nat) (hn : 40 ≤ n) (k : Int) (nm : List UInt8) (a lo hi : Int) (ks : AV) (hks : ks.isCell = true) (S : St)
    (hk : k = 4 ∨ k = 7 ∨ k = 8 ∨ k = 9 ∨ k = 10 ∨ k = 11 ∨ k = 12 ∨ k = 14 ∨ k = 15 ∨ k = 16 ∨ k = 17 ∨ k = 18 ∨ k = 19 ∨ k = 20 ∨ k = 25) : FitsOut n k nm a lo hi ks S := by
  unfold FitsOut
  rw [ev_enter (n := n + 3) (show E.ok 154 = true from rfl) Tryz.func154 (fn := Tryz.f154) rfl (Nat.le_of_ble_eq_true rfl) (by decide +kernel)]
  cases h1 : (nm == [])
  · refine ⟨false, ?_, iff_of_false (by simp) fun f => by have := f.none (by omega); subst this; simp at h1⟩
    rcases hk with rfl | rfl | rfl | rfl | rfl | rfl | rfl | rfl | rfl | rfl | rfl | rfl | rfl | rfl | rfl <;>
      simp (disch := first | (simp only [List.length_append, List.length_cons, List.length_nil]; omega) | (simp; done) | assumption) [AV.cells?, AV.isCell, Tryz.f154, E_esc, k24, c24, a24, k3, c3, a3, k2, c2, a2, k9, c9, a9, fq0, fq1, fq2, fq3, fq4, bq3, bq2, bq9, hks, -AV.isCell, bne, h1]
  cases h2 : (a == 0)
  · refine ⟨false, ?_, iff_of_false (by simp) fun f => by have := f.num (by omega) (by omega); subst this; simp at h2⟩
    rcases hk with rfl | rfl | rfl | rfl | rfl | rfl | rfl | rfl | rfl | rfl | rfl | rfl | rfl | rfl | rfl <;>
      simp (disch := first | (simp only [List.length_append, List.length_cons, List.length_nil]; omega) | (simp; done) | assumption) [AV.cells?, AV.isCell, Tryz.f154, E_esc, k24, c24, a24, k3, c3, a3, k2, c2, a2, k9, c9, a9, fq0, fq1, fq2, fq3, fq4, bq3, bq2, bq9, hks, -AV.isCell, bne, h1, h2]
  cases h3 : (lo == 0)
  · refine ⟨false, ?_, iff_of_false (by simp) fun f => by have := (f.zero (by omega)).1; subst this; simp at h3⟩
    rcases hk with rfl | rfl | rfl | rfl | rfl | rfl | rfl | rfl | rfl | rfl | rfl | rfl | rfl | rfl | rfl <;>
      simp (disch := first | (simp only [List.length_append, List.length_cons, List.length_nil]; omega) | (simp; done) | assumption) [AV.cells?, AV.isCell, Tryz.f154, E_esc, k24, c24, a24, k3, c3, a3, k2, c2, a2, k9, c9, a9, fq0, fq1, fq2, fq3, fq4, bq3, bq2, bq9, hks, -AV.isCell, bne, h1, h2, h3]
  refine ⟨hi == 0, ?_, fun h => ?_, fun f => by have := (f.zero (by omega)).2; simp [this]⟩
  · rcases hk with rfl | rfl | rfl | rfl | rfl | rfl | rfl | rfl | rfl | rfl | rfl | rfl | rfl | rfl | rfl <;>
      simp (disch := first | (simp only [List.length_append, List.length_cons, List.length_nil]; omega) | (simp; done) | assumption) [AV.cells?, AV.isCell, Tryz.f154, E_esc, k24, c24, a24, k3, c3, a3, k2, c2, a2, k9, c9, a9, fq0, fq1, fq2, fq3, fq4, bq3, bq2, bq9, hks, -AV.isCell, bne, h1, h2, h3]
  · have e1 : nm = [] := by simpa using h1
    have e2 : a = 0 := by simpa using h2
    have e3 : lo = 0 := by simpa using h3
    have e4 : hi = 0 := by simpa using h
    exact ⟨by omega, by omega, fun _ => e1, by omega, by omega, fun _ _ => e2, by omega, by omega, fun _ => ⟨e3, e4⟩⟩
end Go.Proofs.YtcpoinfdnimanaaGreatDoor.CK
