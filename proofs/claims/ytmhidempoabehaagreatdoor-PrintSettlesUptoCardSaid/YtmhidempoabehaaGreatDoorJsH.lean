/- The environment is sound; what a row's list gives of the package variable. No condition. -/
import Derived.Test.YtmhidempoabehaaGreatDoorJsG
import Derived.Test.YtmhidempoabehaaGreatDoorRows
import Derived.LaidHandle
import Derived.LaidLaws
import Derived.Stop.Joined
namespace Go.Proofs.YtmhidempoabehaaGreatDoor.PS
set_option linter.unusedVariables false
set_option linter.unusedSimpArgs false
open Go AE EX PT NF LX
set_option maxRecDepth 100000

theorem env : EnvOK Tryz.prog E where
  mixed := by kernel_rfl
  code := fun f fn c hok hf hb => by
    have : f ∈ okL := by simpa [E] using hok
    simp only [okL, List.mem_cons, List.not_mem_nil, or_false] at this
    rcases this with rfl | rfl | rfl | rfl | rfl | rfl | rfl | rfl | rfl | rfl | rfl | rfl | rfl | rfl | rfl | rfl | rfl | rfl | rfl | rfl | rfl | rfl | rfl | rfl | rfl | rfl | rfl | rfl | rfl | rfl | rfl | rfl | rfl | rfl | rfl | rfl | rfl | rfl | rfl | rfl | rfl | rfl | rfl | rfl | rfl | rfl | rfl | rfl | rfl | rfl | rfl | rfl | rfl | rfl | rfl | rfl | rfl | rfl | rfl | rfl | rfl | rfl | rfl | rfl | rfl | rfl | rfl | rfl | rfl | rfl | rfl | rfl | rfl
    · exact codeOk_body (Tryz.func3.symm.trans hf) hb (by kernel_rfl)
    · exact codeOk_body (Tryz.func4.symm.trans hf) hb (by kernel_rfl)
    · exact codeOk_body (Tryz.func5.symm.trans hf) hb (by kernel_rfl)
    · exact codeOk_body (Tryz.func6.symm.trans hf) hb (by kernel_rfl)
    · exact codeOk_body (Tryz.func7.symm.trans hf) hb (by kernel_rfl)
    · exact codeOk_body (Tryz.func8.symm.trans hf) hb (by kernel_rfl)
    · exact codeOk_body (Tryz.func9.symm.trans hf) hb (by kernel_rfl)
    · exact codeOk_body (Tryz.func10.symm.trans hf) hb (by kernel_rfl)
    · exact codeOk_body (Tryz.func11.symm.trans hf) hb (by kernel_rfl)
    · exact codeOk_body (Tryz.func12.symm.trans hf) hb (by kernel_rfl)
    · exact codeOk_body (Tryz.func13.symm.trans hf) hb (by kernel_rfl)
    · exact codeOk_body (Tryz.func14.symm.trans hf) hb (by kernel_rfl)
    · exact codeOk_body (Tryz.func15.symm.trans hf) hb (by kernel_rfl)
    · exact codeOk_body (Tryz.func16.symm.trans hf) hb (by kernel_rfl)
    · exact codeOk_body (Tryz.func17.symm.trans hf) hb (by kernel_rfl)
    · exact codeOk_body (Tryz.func18.symm.trans hf) hb (by kernel_rfl)
    · exact codeOk_body (Tryz.func19.symm.trans hf) hb (by kernel_rfl)
    · exact codeOk_body (Tryz.func20.symm.trans hf) hb (by kernel_rfl)
    · exact codeOk_body (Tryz.func21.symm.trans hf) hb (by kernel_rfl)
    · exact codeOk_body (Tryz.func22.symm.trans hf) hb (by kernel_rfl)
    · exact codeOk_body (Tryz.func23.symm.trans hf) hb (by kernel_rfl)
    · exact codeOk_body (Tryz.func24.symm.trans hf) hb (by kernel_rfl)
    · exact codeOk_body (Tryz.func25.symm.trans hf) hb (by kernel_rfl)
    · exact codeOk_body (Tryz.func26.symm.trans hf) hb (by kernel_rfl)
    · exact codeOk_body (Tryz.func28.symm.trans hf) hb (by kernel_rfl)
    · exact codeOk_body (Tryz.func29.symm.trans hf) hb (by kernel_rfl)
    · exact codeOk_body (Tryz.func30.symm.trans hf) hb (by kernel_rfl)
    · exact codeOk_body (Tryz.func32.symm.trans hf) hb (by kernel_rfl)
    · exact codeOk_body (Tryz.func34.symm.trans hf) hb (by kernel_rfl)
    · exact codeOk_body (Tryz.func35.symm.trans hf) hb (by kernel_rfl)
    · exact codeOk_body (Tryz.func36.symm.trans hf) hb (by kernel_rfl)
    · exact codeOk_body (Tryz.func37.symm.trans hf) hb (by kernel_rfl)
    · exact codeOk_body (Tryz.func38.symm.trans hf) hb (by kernel_rfl)
    · exact codeOk_body (Tryz.func39.symm.trans hf) hb (by kernel_rfl)
    · exact codeOk_body (Tryz.func40.symm.trans hf) hb (by kernel_rfl)
    · exact codeOk_body (Tryz.func41.symm.trans hf) hb (by kernel_rfl)
    · exact codeOk_body (Tryz.func42.symm.trans hf) hb (by kernel_rfl)
    · exact codeOk_body (Tryz.func47.symm.trans hf) hb (by kernel_rfl)
    · exact codeOk_body (Tryz.func48.symm.trans hf) hb (by kernel_rfl)
    · exact codeOk_body (Tryz.func49.symm.trans hf) hb (by kernel_rfl)
    · exact codeOk_body (Tryz.func50.symm.trans hf) hb (by kernel_rfl)
    · exact codeOk_body (Tryz.func51.symm.trans hf) hb (by kernel_rfl)
    · exact codeOk_body (Tryz.func52.symm.trans hf) hb (by kernel_rfl)
    · exact codeOk_body (Tryz.func57.symm.trans hf) hb (by kernel_rfl)
    · exact codeOk_body (Tryz.func58.symm.trans hf) hb (by kernel_rfl)
    · exact codeOk_body (Tryz.func59.symm.trans hf) hb (by kernel_rfl)
    · exact codeOk_body (Tryz.func60.symm.trans hf) hb (by kernel_rfl)
    · exact codeOk_body (Tryz.func61.symm.trans hf) hb (by kernel_rfl)
    · exact codeOk_body (Tryz.func62.symm.trans hf) hb (by kernel_rfl)
    · exact codeOk_body (Tryz.func63.symm.trans hf) hb (by kernel_rfl)
    · exact codeOk_body (Tryz.func67.symm.trans hf) hb (by kernel_rfl)
    · exact codeOk_body (Tryz.func68.symm.trans hf) hb (by kernel_rfl)
    · exact codeOk_body (Tryz.func69.symm.trans hf) hb (by kernel_rfl)
    · exact codeOk_body (Tryz.func73.symm.trans hf) hb (by kernel_rfl)
    · exact codeOk_body (Tryz.func74.symm.trans hf) hb (by kernel_rfl)
    · exact codeOk_body (Tryz.func75.symm.trans hf) hb (by kernel_rfl)
    · exact codeOk_body (Tryz.func76.symm.trans hf) hb (by kernel_rfl)
    · exact codeOk_body (Tryz.func77.symm.trans hf) hb (by kernel_rfl)
    · exact codeOk_body (Tryz.func81.symm.trans hf) hb (by kernel_rfl)
    · exact codeOk_body (Tryz.func82.symm.trans hf) hb (by kernel_rfl)
    · exact codeOk_body (Tryz.func83.symm.trans hf) hb (by kernel_rfl)
    · exact codeOk_body (Tryz.func84.symm.trans hf) hb (by kernel_rfl)
    · exact codeOk_body (Tryz.func85.symm.trans hf) hb (by kernel_rfl)
    · exact codeOk_body (Tryz.func86.symm.trans hf) hb (by kernel_rfl)
    · exact codeOk_body (Tryz.func87.symm.trans hf) hb (by kernel_rfl)
    · exact codeOk_body (Tryz.func88.symm.trans hf) hb (by kernel_rfl)
    · exact codeOk_body (Tryz.func89.symm.trans hf) hb (by kernel_rfl)
    · exact codeOk_body (Tryz.func90.symm.trans hf) hb (by kernel_rfl)
    · exact codeOk_body (Tryz.func91.symm.trans hf) hb (by kernel_rfl)
    · exact codeOk_body (Tryz.func92.symm.trans hf) hb (by kernel_rfl)
    · exact codeOk_body (Tryz.func93.symm.trans hf) hb (by kernel_rfl)
    · exact codeOk_body (Tryz.func94.symm.trans hf) hb (by kernel_rfl)
    · exact codeOk_body (Tryz.func95.symm.trans hf) hb (by kernel_rfl)

  ext := fun f args S r S' hok h => by
    have h' : (if f = 33 then indexX args S else if f = 80 then mulX args S else if f = 27 then asX args S else if f = 31 then joinX args S else none) = some (r, S') := h
    split at h'
    · rename_i h1; subst h1; exact indexX_ok h'
    · split at h'
      · rename_i h1; subst h1; exact mulX_ok h'
      · split at h'
        · rename_i h1; subst h1; exact asX_ok h'
        · split at h'
          · rename_i h1; subst h1; exact joinX_ok h'
          · cases h'
/-! ### the package variable -/
theorem own : ownKnob Tryz.prog.godebug = none := by kernel_rfl
theorem laidB : laidOutB Tryz.prog = true := by kernel_rfl
theorem g_et : Tryz.prog.globalNamed "errors.errorType" = some 0 := by kernel_rfl
theorem g_rt : (Tryz.prog.cutTypes.find? (·.1 == "internal/reflectlite.rtype")).map (·.2) = some 111 := by kernel_rfl
theorem g_row : ((List.range 168).filter fun t => Tryz.prog.rowNamed t [101, 114, 114, 111, 114]) = [27] := by kernel_rfl
theorem g_size : Tryz.prog.types.size = 168 := by kernel_rfl
def laidL : List (String × DataW Unit) := [("errors.errorType", Rows.laid_errors_errorType)]
/-- what a row's list gives -/
theorem gl_of_laid {W : World} (h : laidMetH Tryz.prog laidL W) : GL W W.heap.size := by
  have h' : laidMet Tryz.prog [] W ∧ handlesMet Tryz.prog laidL W := h
  obtain ⟨name, u, ty, e1, e2, e3, e4, e5⟩ := h'.2 _ (List.mem_singleton.2 rfl)
  have en : name = [101, 114, 114, 111, 114] := (Option.some.inj e1).symm
  subst en
  obtain rfl := Option.some.inj (g_rt.symm.trans e2)
  have hm : ty ∈ (List.range 168).filter fun t => Tryz.prog.rowNamed t [101, 114, 114, 111, 114] := List.mem_filter.2 ⟨List.mem_range.2 (by rw [← g_size]; exact e3), e4⟩
  rw [g_row] at hm
  obtain rfl := List.mem_singleton.1 hm
  have hh : typeHandle Tryz.prog 27 = .pointer (some ⟨2, 27, none⟩) := by kernel_rfl
  rw [hh] at e5
  have hc : W.cell? ⟨0, 0, none⟩ = some (.iface 111 (.agg #[.pointer (some ⟨2, 27, none⟩)])) := by simpa using World.var?_cell g_et e5 0
  exact ⟨World.block_lt_of_cell? W _ hc, hc⟩
/-- a world that meets the list -/
noncomputable def laidWorld (os : Os) : World :=
  { World.holding Tryz.prog os ⟨#[], #[], []⟩ with heap := (World.holding Tryz.prog os ⟨#[], #[], []⟩).heap.modify 0 fun
      | .cells _ t frozen => .cells #[.iface 111 (.agg #[.pointer (some ⟨2, 27, none⟩)])] t frozen
      | o => o }
theorem laid_met (os : Os) (args : Array Value) : laidMetH Tryz.prog laidL ((laidWorld os).forCall (fun _ _ => 0) ⟨#[], args, []⟩).memory :=
  laidMetH_of_parts (laidMet_nil _ _) (by kernel_rfl)
end Go.Proofs.YtmhidempoabehaaGreatDoor.PS
