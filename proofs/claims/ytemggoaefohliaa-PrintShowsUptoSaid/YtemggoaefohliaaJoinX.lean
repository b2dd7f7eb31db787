/- strings.Join and strings.IndexByte by their contracts: as the evaluator takes them. No condition. -/
import Derived.Test.YtemggoaefohliaaAeQ
import Derived.Test.YtemggoaefohliaaShelf
import Derived.KernelRfl
namespace Go.Proofs.Ytemggoaefohliaa.AE
set_option linter.unusedVariables false
set_option linter.unusedSimpArgs false
open Go Go.RowKit

def joinX (args : List AV) (S : St) : Option (Res × St) :=
  match args with
  | [.slice es _, .str sep] => match strsOf es with
    | some l => if l.length ≤ 140737488355328 ∧ (Lib.join l sep).length ≤ 140737488355328 then some (.ret (.str (Lib.join l sep)), S) else none
    | none => none
  | _ => none
def indexX (args : List AV) (S : St) : Option (Res × St) :=
  match args with
  | [.str s, .int .u8 c] => some (.ret (.int .i64 (Lib.indexByte s c.toNat.toUInt8)), S)
  | _ => none

theorem joinX_ok {args : List AV} {S S' : St} {r : Res} (h : joinX args S = some (r, S')) :
    (∃ fn, Try.prog.funcs[56]? = some fn ∧ (fn.name == "runtime.NumGoroutine") = false ∧ fn.body.isSome = true) ∧
    ∀ (w0 : World) (B : Nat) (G : Gh) (w : World) (vs : Array Value), Inv w0 B G S w → VRL G args vs.toList →
      Calls Try.prog 56 vs w fun e w' => ∃ G', Inv w0 B G' S' w' ∧ Ext G w G' w' ∧ G'.nu = G.nu ∧ ResR G' r e := by
  refine ⟨⟨_, Try.func56, by decide +kernel, by decide +kernel⟩, fun w0 B G w vs hi hv => ?_⟩
  unfold joinX at h
  split at h
  · rename_i es tok sep
    split at h
    · rename_i l hl
      split at h
      · rename_i hc
        cases h
        obtain ⟨c1, c2⟩ := hc
        have hes := strsOf_inv hl
        subst hes
        obtain ⟨a⟩ := vs
        simp only at hv
        cases hv with
        | cons _ v0 _ m h0 hm =>
          cases hm with
          | cons _ v1 _ m h1 hm =>
            cases hm
            obtain ⟨p, rfl, rfl⟩ := h1.inv_str
            have fin : ∀ (xs : List ByteArray) (w' : World), xs.map (·.data.toList) = l → Below w.heap.size w w' → ∀ q : ByteArray, q.data.toList = Lib.join l p.data.toList →
                ∃ G', Inv w0 B G' S w' ∧ Ext G w G' w' ∧ G'.nu = G.nu ∧ ResR G' (.ret (.str (Lib.join l p.data.toList))) (.returned (.string q)) := fun xs w' hx hb q hq => by
              obtain ⟨i1, i2⟩ := hi.grow hb
              exact ⟨G, i1, i2, rfl, by rw [← hq]; exact VR.str q⟩
            generalize hes : List.map AV.str l = es at *
            cases h0 with
            | nils _ ad _ =>
              have : l = [] := by cases l <;> simp_all
              subst this
              refine (SH.strings_Join_none ad 0 p w).mono fun e w' ⟨he, hw⟩ => ?_
              subst he; subst hw
              exact fin [] _ rfl (Below.refl _ _) _ rfl
            | slice _ _ fl b o cap sz k1 k2 k3 k4 k5 =>
              subst hes
              rw [flatQ_strs] at k2
              cases k2
              obtain ⟨us, v1, v2⟩ := k3.vals
              obtain ⟨xs, rfl, rfl⟩ := VRL_strs v1
              have hlen : (List.map AV.str (xs.map (·.data.toList))).length = xs.length := by simp
              rw [hlen] at k1 ⊢
              cases xs with
              | nil =>
                refine (SH.strings_Join_none (some ⟨b, o, none⟩) cap p w).mono fun e w' ⟨he, hw⟩ => ?_
                subst he; subst hw
                exact fin [] _ rfl (Below.refl _ _) _ rfl
              | cons x xs =>
                have hcells : ∀ (j : Nat) y, (x :: xs)[j]? = some y → w.cell? ⟨b, o + j, none⟩ = some (.string y) := fun j y hj =>
                  hi.imm _ _ _ (v2 j (.string y) (by rw [List.getElem?_map, hj]; rfl))
                refine (SH.strings_Join b o cap (x :: xs) p w hcells (World.block_lt_of_cell? w _ (hcells 0 x rfl)) (by simpa using c1) k1 c2).mono fun e w' ⟨he, hw⟩ => ?_
                subst he
                exact fin (x :: xs) _ rfl hw _ (by simp)
      · cases h
    · cases h
  · cases h

theorem indexX_ok {args : List AV} {S S' : St} {r : Res} (h : indexX args S = some (r, S')) :
    (∃ fn, Try.prog.funcs[84]? = some fn ∧ (fn.name == "runtime.NumGoroutine") = false ∧ fn.body.isSome = true) ∧
    ∀ (w0 : World) (B : Nat) (G : Gh) (w : World) (vs : Array Value), Inv w0 B G S w → VRL G args vs.toList →
      Calls Try.prog 84 vs w fun e w' => ∃ G', Inv w0 B G' S' w' ∧ Ext G w G' w' ∧ G'.nu = G.nu ∧ ResR G' r e := by
  refine ⟨⟨_, Try.func84, by decide +kernel, by decide +kernel⟩, fun w0 B G w vs hi hv => ?_⟩
  unfold indexX at h
  split at h
  · rename_i s c
    cases h
    obtain ⟨a⟩ := vs
    simp only at hv
    cases hv with
    | cons _ v0 _ m h0 hm =>
      cases hm with
      | cons _ v1 _ m h1 hm =>
        cases hm
        obtain ⟨p, rfl, rfl⟩ := h0.inv_str
        cases h1
        refine (SH.strings_IndexByte p c w).mono fun e w' ⟨he, hw⟩ => ?_
        subst he; subst hw
        exact ⟨G, hi, .refl G _, rfl, VR.int _ _⟩
  · cases h
end Go.Proofs.Ytemggoaefohliaa.AE
