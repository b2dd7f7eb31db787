/- An evaluation by rewriting: where a test is not known, both roads are gone, one behind 'if', one behind 'else'. No condition. -/
import Derived.Test.YtemggoaefohliaaAeO
namespace Go.Proofs.Ytemggoaefohliaa.AE
set_option linter.unusedVariables false
set_option linter.unusedSimpArgs false
open Go

section
variable {cx : Ctx} {call : Cal} {ps : Nat → List (Nat × Nat)} {L : Nat} {fs : FS}

/-! ### what comes behind -/
def seqK (r : Option (Out × FS)) (k : FS → Option (Out × FS)) : Option (Out × FS) :=
  match r with
  | some (.norm, fs') => k fs'
  | r => r
def condK (c : AV) (f g : FS → Option (Out × FS)) (fs : FS) : Option (Out × FS) :=
  match c with
  | .bool true => f fs | .bool false => g fs | _ => none
def blockK (id : Nat) (r : Option (Out × FS)) : Option (Out × FS) :=
  match r with
  | some (.exit k, fs') => if k = id then some (.norm, fs') else some (.exit k, fs')
  | r => r
def stepK (r : Option OutS) (k : FS → Option OutS) : Option OutS :=
  match r with
  | some (.ok fs' _) => k fs'
  | r => r
def drawK (fps : List FP) (r : Option OutS) (k : FS → List FP → Option (FS × List FP)) : Option (FS × List FP) :=
  match r with
  | some (.ok fs' fp) => k fs' (fps ++ [fp])
  | _ => none
def opK (o : Oper) (r : Option OR) (fs : FS) : Option OutS :=
  match r with
  | some (.val v b S fp) => some (.ok ⟨putA fs.t o.dst v, b, fs.c, S⟩ fp)
  | some (.pan v S) => some (.pan v ⟨fs.t, fs.b, fs.c, S⟩)
  | none => none
def wantK (w : Option Bool) (f g : FS → Option OutS) (fs : FS) : Option OutS :=
  match w with
  | some true => f fs | some false => g fs | none => none

theorem seqK_ite (c : Prop) [Decidable c] (a b : Option (Out × FS)) (k : FS → Option (Out × FS)) : seqK (if c then a else b) k = if c then seqK a k else seqK b k := by split <;> rfl
theorem seqK_none (k : FS → Option (Out × FS)) : seqK none k = none := rfl
theorem seqK_norm (fs : FS) (k : FS → Option (Out × FS)) : seqK (some (.norm, fs)) k = k fs := rfl
theorem seqK_ret (fs : FS) (k : FS → Option (Out × FS)) : seqK (some (.ret, fs)) k = some (.ret, fs) := rfl
theorem seqK_exit (id : Nat) (fs : FS) (k : FS → Option (Out × FS)) : seqK (some (.exit id, fs)) k = some (.exit id, fs) := rfl
theorem seqK_pan (v : AV) (fs : FS) (k : FS → Option (Out × FS)) : seqK (some (.pan v, fs)) k = some (.pan v, fs) := rfl
theorem condK_bool (b : Bool) (f g : FS → Option (Out × FS)) (fs : FS) : condK (.bool b) f g fs = if b = true then f fs else g fs := by cases b <;> rfl
theorem condK_true (f g : FS → Option (Out × FS)) (fs : FS) : condK (.bool true) f g fs = f fs := rfl
theorem condK_false (f g : FS → Option (Out × FS)) (fs : FS) : condK (.bool false) f g fs = g fs := rfl
theorem blockK_ite (id : Nat) (c : Prop) [Decidable c] (a b : Option (Out × FS)) : blockK id (if c then a else b) = if c then blockK id a else blockK id b := by split <;> rfl
theorem blockK_none (id : Nat) : blockK id none = none := rfl
theorem blockK_norm (id : Nat) (fs : FS) : blockK id (some (.norm, fs)) = some (.norm, fs) := rfl
theorem blockK_ret (id : Nat) (fs : FS) : blockK id (some (.ret, fs)) = some (.ret, fs) := rfl
theorem blockK_exit (id k : Nat) (fs : FS) : blockK id (some (.exit k, fs)) = if k = id then some (.norm, fs) else some (.exit k, fs) := rfl
theorem blockK_pan (id : Nat) (v : AV) (fs : FS) : blockK id (some (.pan v, fs)) = some (.pan v, fs) := rfl
theorem stepK_ite (c : Prop) [Decidable c] (a b : Option OutS) (k : FS → Option OutS) : stepK (if c then a else b) k = if c then stepK a k else stepK b k := by split <;> rfl
theorem stepK_none (k : FS → Option OutS) : stepK none k = none := rfl
theorem stepK_ok (fs : FS) (fp : FP) (k : FS → Option OutS) : stepK (some (.ok fs fp)) k = k fs := rfl
theorem stepK_pan (v : AV) (fs : FS) (k : FS → Option OutS) : stepK (some (.pan v fs)) k = some (.pan v fs) := rfl
theorem drawK_ite (fps : List FP) (c : Prop) [Decidable c] (a b : Option OutS) (k : FS → List FP → Option (FS × List FP)) : drawK fps (if c then a else b) k = if c then drawK fps a k else drawK fps b k := by split <;> rfl
theorem drawK_none (fps : List FP) (k : FS → List FP → Option (FS × List FP)) : drawK fps none k = none := rfl
theorem drawK_ok (fps : List FP) (fs : FS) (fp : FP) (k : FS → List FP → Option (FS × List FP)) : drawK fps (some (.ok fs fp)) k = k fs (fps ++ [fp]) := rfl
theorem drawK_pan (fps : List FP) (v : AV) (fs : FS) (k : FS → List FP → Option (FS × List FP)) : drawK fps (some (.pan v fs)) k = none := rfl
theorem opK_ite (o : Oper) (c : Prop) [Decidable c] (a b : Option OR) (fs : FS) : opK o (if c then a else b) fs = if c then opK o a fs else opK o b fs := by split <;> rfl
theorem opK_none (o : Oper) (fs : FS) : opK o none fs = none := rfl
theorem opK_val (o : Oper) (v : AV) (b : Nat → Nat × List AV) (S : St) (fp : FP) (fs : FS) : opK o (some (.val v b S fp)) fs = some (.ok ⟨putA fs.t o.dst v, b, fs.c, S⟩ fp) := rfl
theorem opK_pan (o : Oper) (v : AV) (S : St) (fs : FS) : opK o (some (.pan v S)) fs = some (.pan v ⟨fs.t, fs.b, fs.c, S⟩) := rfl
theorem wantK_some (b : Bool) (f g : FS → Option OutS) (fs : FS) : wantK (some b) f g fs = if b = true then f fs else g fs := by cases b <;> rfl
theorem wantK_true (f g : FS → Option OutS) (fs : FS) : wantK (some true) f g fs = f fs := rfl
theorem wantK_false (f g : FS → Option OutS) (fs : FS) : wantK (some false) f g fs = g fs := rfl
theorem afterRegion_ite (n : Nat) (c : Prop) [Decidable c] (a b : Option OutS) : afterRegion n (if c then a else b) = if c then afterRegion n a else afterRegion n b := by split <;> rfl
theorem afterDraw_ite (n : Nat) (qs : List (Nat × Nat)) (c : Prop) [Decidable c] (a b : Option (FS × List FP)) : afterDraw n qs (if c then a else b) = if c then afterDraw n qs a else afterDraw n qs b := by split <;> rfl
theorem fromBody_ite (P : Program) (S : St) (rs : List ResultVar) (c : Prop) [Decidable c] (a b : Option (Out × FS)) : fromBody P cx S rs (if c then a else b) = if c then fromBody P cx S rs a else fromBody P cx S rs b := by split <;> rfl
theorem ite_bool (c : Prop) [Decidable c] (a b : Bool) : (if c then AV.bool a else AV.bool b) = AV.bool (if c then a else b) := by split <;> rfl
theorem ite_int (c : Prop) [Decidable c] (k : IntKind) (a b : Int) : (if c then AV.int k a else AV.int k b) = AV.int k (if c then a else b) := by split <;> rfl

/-! ### a text, one step -/
def doOp (cx : Ctx) (call : Cal) (i : Nat) (o : Oper) (fs : FS) : Option OutS := opK o (evOp cx call i o fs) fs
def noOp (o : Oper) (fs : FS) : Option OutS := some (.ok ⟨putA fs.t o.dst .undef, fs.b, fs.c, fs.S⟩ .non)

theorem stepA_K (ops : Array Oper) (i : Nat) (o : Oper) : stepA cx call ops i o fs = wantK (wantedA o.guard ops fs.t) (doOp cx call i o) (noOp o) fs := by
  unfold stepA wantK doOp noOp opK
  generalize wantedA o.guard ops fs.t = w
  cases w with
  | none => rfl
  | some b => cases b <;> rfl
theorem lexA_nil (ops : Array Oper) (i : Nat) : lexA cx call ops i [] fs = some (.ok fs .non) := rfl
theorem lexA_cons (ops : Array Oper) (i : Nat) (o : Oper) (l : List Oper) : lexA cx call ops i (o :: l) fs = stepK (stepA cx call ops i o fs) (lexA cx call ops (i + 1) l) := by
  rw [lexA]
  generalize stepA cx call ops i o fs = r
  match r with
  | none => rfl
  | some (.ok _ _) => rfl
  | some (.pan _ _) => rfl
theorem lexF_nil (ops : Array Oper) (i : Nat) (fps : List FP) : lexF cx call ops i [] fs fps = some (fs, fps) := rfl
theorem lexF_cons (ops : Array Oper) (i : Nat) (o : Oper) (l : List Oper) (fps : List FP) : lexF cx call ops i (o :: l) fs fps = drawK fps (stepA cx call ops i o fs) (lexF cx call ops (i + 1) l) := by
  rw [lexF]
  generalize stepA cx call ops i o fs = r
  match r with
  | none => rfl
  | some (.ok _ _) => rfl
  | some (.pan _ _) => rfl
theorem evCode_skip : evCode cx call ps L .skip fs = some (.norm, fs) := rfl
theorem evCode_region (id : Nat) (ops : Array Oper) : evCode cx call ps L (.region id ops false) fs = afterRegion ops.size (lexA cx call ops 0 ops.toList fs) := rfl
theorem evCode_draw (id : Nat) (ops : Array Oper) : evCode cx call ps L (.region id ops true) fs = afterDraw ops.size (ps id) (lexF cx call ops 0 ops.toList fs []) := rfl
theorem evCode_seq (x y : Code) : evCode cx call ps L (.seq x y) fs = seqK (evCode cx call ps L x fs) (evCode cx call ps L y) := by
  rw [evCode]
  generalize evCode cx call ps L x fs = r
  match r with
  | none => rfl
  | some (.norm, _) => rfl
  | some (.ret, _) => rfl
  | some (.exit _, _) => rfl
  | some (.pan _, _) => rfl
theorem evCode_cond (c : Operand) (x y : Code) : evCode cx call ps L (.cond c x y) fs = condK (rho fs.t c) (evCode cx call ps L x) (evCode cx call ps L y) fs := by
  rw [evCode]
  rfl
theorem evCode_block (id : Nat) (c : Code) : evCode cx call ps L (.block id c) fs = blockK id (evCode cx call ps L c fs) := by
  rw [evCode]
  generalize evCode cx call ps L c fs = r
  match r with
  | none => rfl
  | some (.norm, _) => rfl
  | some (.ret, _) => rfl
  | some (.exit _, _) => rfl
  | some (.pan _, _) => rfl
theorem evCode_loop (c : Code) : evCode cx call ps L (.loop c) fs = iter L (evCode cx call ps L c) fs := rfl
theorem evCode_exit (id : Nat) : evCode cx call ps L (.exit id) fs = some (.exit id, fs) := rfl
theorem evCode_ret : evCode cx call ps L .ret fs = some (.ret, fs) := rfl
end

/-! ### plain operations, one by one -/
section
variable {bq : Bool} {k : IntKind} {a b : Int} {p q : Bool} {s t : List UInt8}
theorem evBin_add : evBin bq .add (.int k a) (.int k b) = some (.int k (k.wrap (a + b))) := by simp [evBin]
theorem evBin_sub : evBin bq .sub (.int k a) (.int k b) = some (.int k (k.wrap (a - b))) := by simp [evBin]
theorem evBin_mul : evBin bq .mul (.int k a) (.int k b) = some (.int k (k.wrap (a * b))) := by simp [evBin]
theorem evBin_quo (h : b ≠ 0) : evBin bq .quo (.int k a) (.int k b) = some (.int k (k.wrap (a.tdiv b))) := by simp [evBin, h]
theorem evBin_rem (h : b ≠ 0) : evBin bq .rem (.int k a) (.int k b) = some (.int k (a.tmod b)) := by simp [evBin, h]
theorem evBin_eql : evBin bq .eql (.int k a) (.int k b) = some (.bool (a == b)) := by simp [evBin]
theorem evBin_neq : evBin bq .neq (.int k a) (.int k b) = some (.bool (a != b)) := by simp [evBin]
theorem evBin_lss : evBin bq .lss (.int k a) (.int k b) = some (.bool (decide (a < b))) := by simp [evBin]
theorem evBin_leq : evBin bq .leq (.int k a) (.int k b) = some (.bool (decide (a ≤ b))) := by simp [evBin]
theorem evBin_gtr : evBin bq .gtr (.int k a) (.int k b) = some (.bool (decide (b < a))) := by simp [evBin]
theorem evBin_geq : evBin bq .geq (.int k a) (.int k b) = some (.bool (decide (b ≤ a))) := by simp [evBin]
theorem evBin_eqlB : evBin true .eql (.bool p) (.bool q) = some (.bool (p == q)) := by simp [evBin]
theorem evBin_neqB : evBin true .neq (.bool p) (.bool q) = some (.bool (!(p == q))) := by simp [evBin]
theorem evBin_addS (h : s.length + t.length ≤ 4611686018427387904) : evBin bq .add (.str s) (.str t) = some (.str (s ++ t)) := by simp [evBin, h]
theorem evBin_eqlS : evBin bq .eql (.str s) (.str t) = some (.bool (s == t)) := by simp [evBin]
theorem evBin_neqS : evBin bq .neq (.str s) (.str t) = some (.bool (!(s == t))) := by simp [evBin]
theorem evBin_lssS : evBin bq .lss (.str s) (.str t) = some (.bool (Op.bytesLess s t)) := by simp [evBin]
theorem evBin_leqS : evBin bq .leq (.str s) (.str t) = some (.bool (Op.bytesLess s t || s == t)) := by simp [evBin]
end
end Go.Proofs.Ytemggoaefohliaa.AE
