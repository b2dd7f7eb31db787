/- Joined: DzQ, DsC. No condition beyond those of its lemmas. -/
import Derived.Test.YtemggoaefohliaaDoorPsE
import Derived.Test.YtemggoaefohliaaDoorPsF
import Derived.Test.YtemggoaefohliaaDoorBulk
import Derived.Test.YtemggoaefohliaaDoorCards
import Derived.Test.YtemggoaefohliaaDoorTie
import Derived.WalkKit
import Derived.ProofKit
import Derived.OpenShut
import Derived.Deep.DeepHandedRow
import Derived.JoinedCond
import Derived.Carry
import Derived.ChangeMaps5
/- ParseBinds beside the environment. No condition. -/

/- ParseBinds: the statement and its card: for every input of a bulk up to the bound, the law's Go function answers true. Its conditions are those of the given row and card, and no others. -/
namespace Go.Proofs.YtemggoaefohliaaDoor.PBinds
set_option linter.unusedVariables false
set_option linter.unusedSimpArgs false
open Go AE EX PT NF LX PS
open Go.ChangeShapes Go.WideShapes Go.ChangeAt Go.RowKit Go.ChangeMaps
set_option maxRecDepth 100000

theorem contract (H : Type) (enc : TypeId × Value → H) (W : World) (base : Nat) (args : Array Value) (ds gs : List (DataW H)) (before : List MemPlace)
    (hval : ∀ (j : Nat) t v, Tryd.f5.params[j]? = some t → args[j]? = some v → Value.okWide Tryd.prog W .any base t v)
    (hW : DataW.Whole enc Tryd.prog Tryd.f5.params.toList Rows.parseBindsSpec.vars false W args.toList ds gs before) (hk : Rows.uptoSmall H (ds ++ gs) = true) (hL : laidMetH Tryd.prog laidL W) :
    Calls Tryd.prog 5 args W fun e W' => ∃ v, e = .returned v ∧ Rows.parseBindsSpec.post enc Tryd.prog Tryd.f5 false true false false W args v W' := by
  have hW' := hW
  obtain ⟨p, q, hA0, hV, rfl, hfz, hnd⟩ := hW
  have hA : DataW.TrodAll enc Tryd.prog W 0 (fun _ => true) true Tryd.f5.params.toList args.toList ds p := hA0
  rw [Tryd.params5] at hA hval
  obtain ⟨v0, vs0, d0, ds0, p0, q0, hargs, rfl, rfl, h0, r0⟩ := trodAll_cons hA
  obtain ⟨v1, vs1, d1, ds1, p1, q1, rfl, rfl, rfl, h1, r1⟩ := trodAll_cons r0
  obtain ⟨v2, vs2, d2, ds2, p2, q2, rfl, rfl, rfl, h2, r2⟩ := trodAll_cons r1
  obtain ⟨v3, vs3, d3, ds3, p3, q3, rfl, rfl, rfl, h3, r3⟩ := trodAll_cons r2
  obtain ⟨v4, vs4, d4, ds4, p4, q4, rfl, rfl, rfl, h4, r4⟩ := trodAll_cons r3
  obtain ⟨rfl, rfl, rfl⟩ := trodAll_nil r4
  obtain rfl : args = #[v0, v1, v2, v3, v4] := by cases args; simp_all
  obtain ⟨rfl, rfl⟩ := trodVars_none hV
  obtain ⟨s0, rfl, hd0⟩ : ∃ s : ByteArray, v0 = .string s ∧ d0 = .lit (.string s.data.toList) := by
    obtain ⟨s, e1, e2, _⟩ := open_string Tryd.underlying9 (hval 0 9 v0 rfl rfl) h0
    exact ⟨s, e1, e2⟩
  subst hd0
  obtain ⟨s1, rfl, hd1⟩ : ∃ s : ByteArray, v1 = .string s ∧ d1 = .lit (.string s.data.toList) := by
    obtain ⟨s, e1, e2, _⟩ := open_string Tryd.underlying9 (hval 1 9 v1 rfl rfl) h1
    exact ⟨s, e1, e2⟩
  subst hd1
  obtain ⟨s2, rfl, hd2⟩ : ∃ s : ByteArray, v2 = .string s ∧ d2 = .lit (.string s.data.toList) := by
    obtain ⟨s, e1, e2, _⟩ := open_string Tryd.underlying9 (hval 2 9 v2 rfl rfl) h2
    exact ⟨s, e1, e2⟩
  subst hd2
  obtain ⟨a3, rfl, rfl, rfl, w3⟩ := open_int Tryd.underlying3 (hval 3 3 v3 rfl rfl) h3
  obtain ⟨a4, rfl, rfl, rfl, w4⟩ := open_int Tryd.underlying3 (hval 4 3 v4 rfl rfl) h4
  have hbd := bulks.bound hk
  simp only [List.append_nil, Rows.uptoBulkAll, Rows.uptoBulk] at hbd
  have hev := law_ParseBinds 3000000 s0.data.toList s1.data.toList s2.data.toList a3 a4 (by omega) (by omega) (by omega) (wf64 w3) (wf64 w4) (by omega)
  clear hA0
  refine (run_bool env hev (W := W) (gl_of_laid hL) (vs := #[.string s0, .string s1, .string s2, .int .i64 a3, .int .i64 a4]) (.cons _ _ _ _ (.str _) (.cons _ _ _ _ (.str _) (.cons _ _ _ _ (.str _) (.cons _ _ _ _ (.int _ _) (.cons _ _ _ _ (.int _ _) .nil)))))).mono fun e W' ⟨he, hg⟩ => ?_
  subst he
  exact ⟨_, rfl, post_law laidB hW' rfl (by rw [Tryd.params5]; exact by decide +kernel) (by kernel_rfl) Tryd.underlying4 rfl hg⟩

theorem reads (os : Os) {H : Type} (enc : TypeId × Value → H) : ∃ places, DataW.whole enc Tryd.prog ((laidWorld os).forCall (fun _ _ => 0) ⟨#[], #[.string .empty, .string .empty, .string .empty, .int .i64 0, .int .i64 0], []⟩).memory Tryd.f5.params.toList Rows.parseBindsSpec.vars false (#[.string .empty, .string .empty, .string .empty, .int .i64 0, .int .i64 0] : Array Value).toList 8 = some ([.lit (.string []), .lit (.string []), .lit (.string []), .lit (.int .i64 0), .lit (.int .i64 0)], [], places) :=
  ⟨[], by kernel_rfl⟩

theorem lifted (os : Os) (started : os.Started) (H : Type) (enc : TypeId × Value → H) (F : Stop.Interp) :
    ReturnsInHanded {} Tryd.checked os 5 .any ((Rows.OpenSpec.upto Rows.parseBindsSpec).preRow enc Tryd.prog Tryd.f5 Rows.parseBindsUptoRow.domain false Rows.parseBindsUptoRow.laid) (((Rows.OpenSpec.upto Rows.parseBindsSpec).at F).post enc Tryd.prog Tryd.f5 false true false false) := by
  obtain ⟨places, hx⟩ := reads os enc
  refine returnsInHanded_of_row (C := Tryd.checked) (s := Rows.OpenSpec.upto Rows.parseBindsSpec) own started (by kernel_rfl) Tryd.func5
    (witness_row_at (enc := enc) (C := Tryd.checked) false (laidWorld os) #[.string .empty, .string .empty, .string .empty, .int .i64 0, .int .i64 0] rfl (by kernel_rfl) (by kernel_rfl) (by kernel_rfl)
      (OpenSpec.preRow_of_cond 8 hx (by kernel_rfl) (fun k hk => by cases hk; kernel_rfl) (by kernel_rfl) (laid_met os _))) ?_
  intro W base args ds gs before hval hW _ hcond _ hL _ _
  exact contract H enc W base args ds gs before hval hW (hcond _ rfl) hL

theorem over : Rows.parseBindsUptoRow.holds Tryd.pinned (Rows.OpenSpec.upto Rows.parseBindsSpec) :=
  OpenClaim.holds_of_cond 5 Tryd.f5 rfl rfl rfl rfl rfl rfl rfl ⟨rfl, rfl, rfl, rfl, rfl⟩ rfl rfl rfl rfl rfl (by kernel_rfl) Tryd.func5 (by kernel_rfl)
    (of_decide_eq_true (by kernel_rfl)) (by unfold Func.isWrapper; first | (rw [if_pos (by decide +kernel)]; kernel_rfl) | (rw [if_neg (by decide +kernel)]; exact ⟨rfl, rfl⟩))
    (fun os started H enc _ F => by rw [OpenClaim.pre_eq_preRow]; exact lifted os started H enc F)

theorem fnOf : Tryd.prog.funcNamed Rows.parseBindsUptoRow.func = some 5 := by kernel_rfl
theorem looksOn : true = Tryd.prog.looks [] := by kernel_rfl
theorem noStand : ∀ t ∈ Tryd.f5.params.toList, Tryd.prog.wantsStandIn t = false := by
  rw [Tryd.params5]
  decide +kernel
theorem plain (f : FuncId) (fn : Func) (hf : Tryd.pinned.checked.prog.funcNamed Rows.parseBindsUptoRow.func = some f) (hfn : Tryd.pinned.checked.prog.funcs[f]? = some fn) :
    true = Tryd.pinned.checked.prog.looks [] ∧ ∀ (j : Nat) t, fn.params[j]? = some t → Tryd.pinned.checked.prog.wantsStandIn t = false := by
  obtain rfl : f = 5 := Option.some.inj (fnOf.symm.trans hf) |>.symm
  obtain rfl : fn = Tryd.f5 := (Option.some.inj (Tryd.func5.symm.trans hfn)).symm
  exact ⟨looksOn, fun j t ht => noStand t (Array.mem_toList_iff.2 (Array.mem_of_getElem? ht))⟩

theorem proved : Rows.ParseBindsUptoCardSaid :=
  Claim7.holds_tied_plain_at .later [] _ _ _ _ over (fun _ h => by cases h) (by kernel_rfl) (fun _ h => by cases h) parseBindsUpto_row_tie rfl ⟨rfl, rfl⟩ (by kernel_rfl) rfl plain (by kernel_rfl)
end Go.Proofs.YtemggoaefohliaaDoor.PBinds

