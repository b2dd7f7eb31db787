/- Joined: AeA, AeB, GlA, AeC, AeD, AeE, AeF. No condition beyond those of its lemmas. -/
import GoSem.Machine.Exec
import Derived.Attr
import Derived.Below
import Derived.Calls
import Derived.Laws.AppendOwn
import Derived.Laws.Cells
import Derived.Laws.World
import Derived.Laws.StructEq
import Derived.ChangeKeysEq
import Derived.Laws.Strings
import Derived.Laws.Entries
import Derived.Laws.BytesString
/- The evaluator over abstract values: definitions alone. No condition: nothing is claimed here. -/
namespace Go.Proofs.YtcpoinfdnimanaaGreatDoor.AE
set_option linter.unusedVariables false
set_option linter.unusedSimpArgs false
open Go

/-- What is known of a slice's spare room: nothing; there is none; it is owned by token t, whose frontier stands at pos; nothing, but whether the slice is nil. -/
inductive Tok where
  | non | clip | own (t pos : Nat) | knil (b : Bool)

inductive AV where
  | junk | undef
  | bool (b : Bool) | int (k : IntKind) (n : Int) | str (s : List UInt8)
  | agg (cs : List AV) | tup (vs : List AV)
  | slice (es : List AV) (tok : Tok)
  | nilp | ref (cs : List AV) | loc (dep d ver off : Nat) | ptr (id off : Nat)
  | fn (f : FuncId) (first cap : List AV)
  | iface (t : TypeId) (v : AV) | nilif
  /-- a row that may be written on: which one, as it is since when, from where on, how many, how many there are sure to be room for, cells of each -/
  | sl (id ver off len lim sz : Nat) | rp (id ver off : Nat)
  | mp (id : Nat) | nilm

/-- does one cell hold it? -/
def AV.isCell : AV → Bool
  | .junk => false | .undef => false | .tup _ => false | .agg _ => false | _ => true
/-- the cells that hold it, if it can be stored -/
def AV.cells? : AV → Option (List AV)
  | .junk => none | .undef => none | .tup _ => none
  | .agg cs => if cs.all AV.isCell then some cs else none
  | .bool b => some [.bool b] | .int k n => some [.int k n] | .str s => some [.str s]
  | .slice es tok => some [.slice es tok] | .nilp => some [.nilp] | .ref cs => some [.ref cs]
  | .loc a b c d => some [.loc a b c d] | .ptr a b => some [.ptr a b] | .fn f a b => some [.fn f a b]
  | .iface t v => some [.iface t v] | .nilif => some [.nilif]
  | .sl a b c d e f => some [.sl a b c d e f] | .rp a b c => some [.rp a b c] | .mp a => some [.mp a] | .nilm => some [.nilm]

def upd {α : Type} (d : Nat) (v : α) (t : Nat → α) : Nat → α := fun x => if x = d then v else t x

/-- a box outside: cells of a type; or (its type's number is greater) a row: its version, and its cells; or a map: its entries -/
structure HBox where
  ty : TypeId
  cs : List AV
def rowT : Nat := 1048576
def mapT : Nat := 2097152
/-- a row's cells, if it is as it was then -/
def rowC (bx : HBox) (ver : Nat) : Option (List AV) :=
  if decide (rowT ≤ bx.ty) && decide (bx.ty < mapT) then
    match bx.cs with
    | .int .i64 v :: cells => if v = (ver : Int) then some cells else none
    | _ => none
  else none
def isMap (bx : HBox) : Bool := decide (mapT ≤ bx.ty)
structure St where
  H : List HBox
  T : List Nat
/-- a frame: temporaries; the local boxes (version, cells), by the slot that made them; a count for versions; what is outside -/
structure FS where
  t : Nat → AV
  b : Nat → Nat × List AV
  c : Nat
  S : St

inductive FP where
  | non | rl (d : Nat) | wl (d : Nat) | rh | wh | ro (i : Nat) | wo (i : Nat)
  /-- all is read, and boxes from there on are new -/
  | nw (n : Nat)

inductive OR where
  | val (v : AV) (b : Nat → Nat × List AV) (S : St) (fp : FP)
  | pan (v : AV) (S : St)

inductive Res where
  | ret (v : AV) | pan (v : AV)

abbrev Cal := FuncId → List AV → St → Option (Res × St)

/-! ### questions to the program's types -/
def aggQ (P : Program) (t : TypeId) : Bool :=
  match P.underlying t with
  | some (.struct _) => true | some (.array _ _) => true | _ => false
def sliceQ (P : Program) (t : TypeId) : Option TypeId :=
  match P.underlying t with
  | some (.slice e) => some e | _ => none
def arrQ (P : Program) (t : TypeId) : Option (Nat × TypeId) :=
  match P.underlying t with
  | some (.array n e) => some (n, e) | _ => none
def intQ (P : Program) (t : TypeId) : Option IntKind :=
  match P.underlying t with
  | some (.int k) => some k | _ => none
def strQ (P : Program) (t : TypeId) : Bool :=
  match P.underlying t with
  | some .string => true | _ => false
def concQ (P : Program) (t : TypeId) : Bool :=
  match P.underlying t with
  | some (.interface _) => false | none => false | _ => true
/-- offset and cells of a field (not of one without cells) -/
def fieldQ (P : Program) (s : TypeId) (f : Nat) : Option (Nat × Nat × Bool) :=
  match P.underlying s with
  | some (.struct fs) => match fs[f]? with
    | some fd => if (P.underlying fd.type).isSome ∧ P.cellsOf fd.type ≠ 0 then some (fd.offset, P.cellsOf fd.type, aggQ P fd.type) else none
    | none => none
  | _ => none
def ofC0 : Value → AV
  | .bool b => .bool b | .int k n => .int k n | .string s => .str s.data.toList
  | .pointer none => .nilp | .slice none 0 0 => .slice [] .clip | .nilIface => .nilif | .map none => .nilm
  | _ => .junk
def ofC : Value → AV
  | .agg cs => .agg (cs.toList.map ofC0)
  | v => ofC0 v
def AV.isJunk : AV → Bool
  | .junk => true | _ => false
def zeroQ (P : Program) (t : TypeId) : Option (List AV) :=
  match P.info? t with
  | some i => match i.zero with
    | some z => if (z.cells.toList.map ofC0).all (fun a => !a.isJunk) ∧ z.cells.size = i.size then some (z.cells.toList.map ofC0) else none
    | none => none
  | none => none

/-! ### what an evaluation knows of the function that it is in -/
structure Ctx where
  P : Program
  esc : Tmp → Bool
  dep : Nat

def rho (t : Nat → AV) : Operand → AV
  | .tmp x => t x
  | .const v => ofC v
  | .global _ => .junk
  | .func f => .fn f [] []

/-! ### memory -/
def rdc (agg : Bool) (sz : Nat) (cs : List AV) : Option AV :=
  if agg then (if sz ≤ cs.length then some (.agg (cs.take sz)) else none) else cs.head?
def wrc (off : Nat) (new cs : List AV) : Option (List AV) :=
  if off + new.length ≤ cs.length then some (cs.take off ++ (new ++ cs.drop (off + new.length))) else none

def knownQ (P : Program) (t : TypeId) : Bool := (P.underlying t).isSome
def evLoad (cx : Ctx) (t : TypeId) (a : AV) (fs : FS) : Option OR :=
  if knownQ cx.P t = false then none else
  match a with
  | .ref cs => match rdc (aggQ cx.P t) (cx.P.cellsOf t) cs with
    | some v => some (.val v fs.b fs.S .non) | none => none
  | .loc dep d ver off =>
    if dep = cx.dep ∧ (fs.b d).1 = ver ∧ ver ≠ 0 then
      match rdc (aggQ cx.P t) (cx.P.cellsOf t) ((fs.b d).2.drop off) with
      | some v => some (.val v fs.b fs.S (.rl d)) | none => none
    else none
  | .ptr id off => match fs.S.H[id]? with
    | some bx => if bx.ty < 1048576 then (match rdc (aggQ cx.P t) (cx.P.cellsOf t) (bx.cs.drop off) with
      | some v => some (.val v fs.b fs.S (.ro id)) | none => none) else none
    | none => none
  | .rp id ver off => match (fs.S.H[id]?).bind (rowC · ver) with
    | some cs => match rdc (aggQ cx.P t) (cx.P.cellsOf t) (cs.drop off) with
      | some v => some (.val v fs.b fs.S (.ro id)) | none => none
    | none => none
  | _ => none

mutual
/-- no address of a local box inside -/
def AV.sealed : AV → Bool
  | .loc .. => false
  | .agg cs => AV.sealedL cs | .tup cs => AV.sealedL cs | .slice cs _ => AV.sealedL cs | .ref cs => AV.sealedL cs
  | .fn _ a b => AV.sealedL a && AV.sealedL b
  | .iface _ v => v.sealed
  | _ => true
def AV.sealedL : List AV → Bool
  | [] => true
  | a :: l => a.sealed && AV.sealedL l
end

def evStore (cx : Ctx) (t : TypeId) (a v : AV) (fs : FS) : Option OR :=
  match v.cells? with
  | none => none
  | some new =>
    if new.length = cx.P.cellsOf t ∧ (cx.P.info? t).isSome then
      match a with
      | .loc dep d ver off =>
        if dep = cx.dep ∧ (fs.b d).1 = ver ∧ ver ≠ 0 then
          match wrc off new (fs.b d).2 with
          | some cs => some (.val .undef (upd d (ver, cs) fs.b) fs.S (.wl d)) | none => none
        else none
      | .ptr id off => match fs.S.H[id]? with
        | some bx => if bx.ty < 1048576 then (match wrc off new bx.cs with
          | some cs => if AV.sealedL new then some (.val .undef fs.b { fs.S with H := fs.S.H.set id ⟨bx.ty, cs⟩ } (.wo id)) else none
          | none => none) else none
        | none => none
      | .rp id ver off => match fs.S.H[id]? with
        | some bx => match rowC bx ver with
          | some old => match wrc off new old with
            | some cs => if AV.sealedL new then some (.val .undef fs.b { fs.S with H := fs.S.H.set id ⟨bx.ty, .int .i64 ver :: cs⟩ } (.wo id)) else none
            | none => none
          | none => none
        | none => none
      | _ => none
    else none

/-- a new box of these cells: local to the frame, or (if it is said to escape) outside -/
def evBox (cx : Ctx) (i : Nat) (dst : Option Tmp) (ty : TypeId) (cs : List AV) (fs : FS) : Option OR :=
  match dst with
  | none => none
  | some d =>
    if cx.esc d then (if AV.sealedL cs && decide (ty < 1048576) then some (.val (.ptr fs.S.H.length 0) fs.b { fs.S with H := fs.S.H ++ [⟨ty, cs⟩] } .wh) else none)
    else some (.val (.loc cx.dep d (fs.c + i + 1) 0) (upd d (fs.c + i + 1, cs) fs.b) fs.S (.wl d))

/-! ### plain operations -/
def evBin (bq : Bool) (op : BinOp) (x y : AV) : Option AV :=
  match x, y with
  | .int k a, .int k' b =>
    match op with
    | .shl => if 0 ≤ b then some (.int k (k.wrap (a * 2 ^ (min b.toNat k.bits)))) else none
    | .shr => if 0 ≤ b then some (.int k (a.fdiv (2 ^ (min b.toNat k.bits)))) else none
    | _ => if k = k' then
      match op with
      | .add => some (.int k (k.wrap (a + b))) | .sub => some (.int k (k.wrap (a - b))) | .mul => some (.int k (k.wrap (a * b)))
      | .quo => if b = 0 then none else some (.int k (k.wrap (a.tdiv b)))
      | .rem => if b = 0 then none else some (.int k (a.tmod b))
      | .and => some (.int k (k.wrap (BitVec.ofInt k.bits a &&& BitVec.ofInt k.bits b).toNat))
      | .or => some (.int k (k.wrap (BitVec.ofInt k.bits a ||| BitVec.ofInt k.bits b).toNat))
      | .xor => some (.int k (k.wrap (BitVec.ofInt k.bits a ^^^ BitVec.ofInt k.bits b).toNat))
      | .eql => some (.bool (a == b)) | .neq => some (.bool (a != b))
      | .lss => some (.bool (decide (a < b))) | .leq => some (.bool (decide (a ≤ b)))
      | .gtr => some (.bool (decide (a > b))) | .geq => some (.bool (decide (a ≥ b)))
      | _ => none
      else none
  | .bool a, .bool b =>
    if bq then
      match op with
      | .eql => some (.bool (a == b)) | .neq => some (.bool (!(a == b))) | _ => none
    else none
  | .str a, .str b =>
    match op with
    | .add => if a.length + b.length ≤ 4611686018427387904 then some (.str (a ++ b)) else none
    | .eql => some (.bool (a == b)) | .neq => some (.bool (!(a == b)))
    | .lss => some (.bool (Op.bytesLess a b)) | .leq => some (.bool (Op.bytesLess a b || a == b))
    | .gtr => some (.bool (!(Op.bytesLess a b || a == b))) | .geq => some (.bool (!Op.bytesLess a b))
    | _ => none
  | _, _ => none
def boolQ (P : Program) (t : TypeId) : Bool :=
  match P.underlying t with
  | some .bool => true | _ => false
def ifcQ (P : Program) (t : TypeId) : Bool :=
  match P.underlying t with
  | some (.interface _) => true | _ => false
def ptrQ (P : Program) (t : TypeId) : Bool :=
  match P.underlying t with
  | some (.pointer _) => true | _ => false
def mapB (P : Program) (t : TypeId) : Bool :=
  match P.underlying t with
  | some (.map _ _) => true | _ => false
def cmpN (op : BinOp) (r : Bool) : Option AV :=
  match op with
  | .eql => some (.bool r) | .neq => some (.bool (!r)) | _ => none
def isC : Operand → Bool
  | .const _ => true | _ => false
/-- a plain value of a plain type -/
def scFit (P : Program) (t : TypeId) (v : AV) : Bool :=
  match P.underlying t, v with
  | some .bool, .bool _ => true | some (.int k), .int k' _ => decide (k = k') | some .string, .str _ => true
  | _, _ => false
def scEq : AV → AV → Bool
  | .bool a, .bool b => a == b | .int _ a, .int _ b => a == b | .str a, .str b => a == b | _, _ => false
/-- fields, from a cell on, each of one plain cell: are two alike? -/
def eqFs (P : Program) : Nat → List Field → List AV → List AV → Option Bool
  | _, [], _, _ => some true
  | i, f :: fs, a :: as, b :: bs =>
    if f.offset = i ∧ f.name ≠ "_" ∧ scFit P f.type a = true ∧ scFit P f.type b = true then
      (match eqFs P (i + 1) fs as bs with | some r => some (scEq a b && r) | none => none)
    else none
  | _, _, _, _ => none
def eqIs (P : Program) (e : TypeId) : List AV → List AV → Option Bool
  | [], [] => some true
  | a :: as, b :: bs =>
    if scFit P e a = true ∧ scFit P e b = true then
      (match eqIs P e as bs with | some r => some (scEq a b && r) | none => none)
    else none
  | _, _ => none
/-- are two structs, or two arrays, of plain cells alike? -/
def eqAgg (P : Program) (t : TypeId) (xs ys : List AV) : Option Bool :=
  if P.stoodInHeld t = false ∧ P.eqGuardType P.depth t = false then
    match P.underlying t with
    | some (.struct fs) => eqFs P 0 fs.toList xs ys
    | some (.array n e) => if xs.length = n ∧ P.cellsOf e = 1 ∧ (P.info? e).isSome then eqIs P e xs ys else none
    | _ => none
  else none
/-- likewise, with interface values held against nil (two nils: only where one is written so) -/
def evB2 (P : Program) (t : TypeId) (kc : Bool) (op : BinOp) (x y : AV) : Option AV :=
  match x, y with
  | .iface _ _, .nilif => if ifcQ P t then cmpN op false else none
  | .nilif, .iface _ _ => if ifcQ P t then cmpN op false else none
  | .nilif, .nilif => if ifcQ P t && kc then cmpN op true else none
  | .ptr _ _, .nilp => if ptrQ P t then cmpN op false else none
  | .ref _, .nilp => if ptrQ P t then cmpN op false else none
  | .loc _ _ _ _, .nilp => if ptrQ P t then cmpN op false else none
  | .nilp, .nilp => if ptrQ P t then cmpN op true else none
  | .mp _, .nilm => if mapB P t then cmpN op false else none
  | .nilm, .mp _ => if mapB P t then cmpN op false else none
  | .nilm, .nilm => if mapB P t then cmpN op true else none
  | .agg xs, .agg ys => match eqAgg P t xs ys with
    | some q => cmpN op q | none => none
  | .slice (_ :: _) _, .slice [] .clip => if kc && (sliceQ P t).isSome then cmpN op false else none
  | .sl _ _ _ _ _ _, .slice [] .clip => if kc && (sliceQ P t).isSome then cmpN op false else none
  | .slice [] (.knil b), .slice [] .clip => if kc && (sliceQ P t).isSome then cmpN op b else none
  | a, b => evBin (boolQ P t) op a b
/-- 'x.(T)' with its ok, T no interface -/
def zvQ (P : Program) (t : TypeId) : Option AV :=
  match P.info? t with
  | some i => match i.zero with
    | some v => some (ofC v) | none => none
  | none => none
def evAssert (P : Program) (t : TypeId) (x : AV) : Option AV :=
  if concQ P t then
    match x with
    | .iface u v => if u = t then some (.tup [v, .bool true]) else (match zvQ P t with | some z => some (.tup [z, .bool false]) | none => none)
    | .nilif => match zvQ P t with
      | some z => some (.tup [z, .bool false]) | none => none
    | _ => none
  else none
def evUn (op : UnOp) (x : AV) : Option AV :=
  match op, x with
  | .neg, .int k n => some (.int k (k.wrap (0 - n)))
  | .not, .bool b => some (.bool (!b))
  | _, _ => none
def bytesOf : List AV → Option (List UInt8)
  | [] => some []
  | .int .u8 n :: l => match bytesOf l with
    | some r => some (UInt8.ofNat n.toNat :: r) | none => none
  | _ :: _ => none
def evConv (P : Program) (src dst : TypeId) (x : AV) : Option AV :=
  match x with
  | .int _ n => match intQ P src, intQ P dst with
    | some _, some k => some (.int k (k.wrap n)) | _, _ => none
  | .str s => if strQ P src = true ∧ strQ P dst = true then some (.str s) else none
  | .slice es _ => match sliceQ P src with
    | some e => if intQ P e = some .u8 ∧ strQ P dst = true then (match bytesOf es with | some b => some (.str b) | none => none) else none
    | none => none
  | _ => none

/-- each fills so many cells -/
def sizesOk (n : Nat) : List AV → Bool
  | [] => true
  | a :: l => (match a.cells? with | some cs => cs.length == n | none => false) && sizesOk n l
def nth (l : List AV) (i : Int) : Option AV := if 0 ≤ i then l[i.toNat]? else none
def evField (P : Program) (t : TypeId) (x : AV) (f : Nat) : Option AV :=
  match fieldQ P t f, x with
  | some (off, sz, agg), .agg cs => rdc agg sz (cs.drop off)
  | _, _ => none
def evFieldAddr (P : Program) (t : TypeId) (x : AV) (f : Nat) : Option AV :=
  match fieldQ P t f with
  | some (off, _, _) => match x with
    | .ref cs => some (.ref (cs.drop off))
    | .loc dep d ver o => some (.loc dep d ver (o + off))
    | .ptr id o => some (.ptr id (o + off))
    | .rp id v o => some (.rp id v (o + off))
    | _ => none
  | none => none
def evIndex (P : Program) (t : TypeId) (x i : AV) : Option AV :=
  match i with
  | .int _ n => match x with
    | .str s => if strQ P t = true ∧ 0 ≤ n then (match s[n.toNat]? with | some b => some (.int .u8 b.toNat) | none => none) else none
    | .agg cs => match arrQ P t with
      | some (len, e) => if 0 ≤ n ∧ n < len ∧ (P.underlying e).isSome then rdc (aggQ P e) (P.cellsOf e) (cs.drop (n.toNat * P.cellsOf e)) else none
      | none => none
    | _ => none
  | _ => none
def evIndexAddr (P : Program) (t : TypeId) (x i : AV) : Option AV :=
  match i with
  | .int _ n => match x with
    | .slice es _ => match sliceQ P t with
      | some e => match nth es n with
        | some v => match v.cells? with
          | some cs => if cs.length = P.cellsOf e ∧ (P.info? e).isSome then some (.ref cs) else none
          | none => none
        | none => none
      | none => none
    | .sl id ver off len _ sz => match sliceQ P t with
      | some e => if 0 ≤ n ∧ n < len ∧ sz = P.cellsOf e ∧ (P.info? e).isSome then some (.rp id ver (off + n.toNat * sz)) else none
      | none => none
    | _ => match arrQ P t with
      | some (len, e) =>
        if 0 ≤ n ∧ n < len ∧ (P.info? e).isSome then
          match x with
          | .ref cs => some (.ref (cs.drop (n.toNat * P.cellsOf e)))
          | .loc dep d ver o => some (.loc dep d ver (o + n.toNat * P.cellsOf e))
          | .ptr id o => some (.ptr id (o + n.toNat * P.cellsOf e))
          | .rp id v o => some (.rp id v (o + n.toNat * P.cellsOf e))
          | _ => none
        else none
      | none => none
  | _ => none
def evSlice (P : Program) (t : TypeId) (x : AV) (lo hi : Option AV) : Option AV :=
  match x with
  | .str s =>
    if strQ P t = true then
      match (match hi with | none => some (.int .i64 s.length) | some h => some h : Option AV), (match lo with | none => some (.int .i64 0) | some l => some l : Option AV) with
      | some (.int _ h), some (.int _ l) => if 0 ≤ h ∧ h ≤ s.length ∧ 0 ≤ l ∧ l ≤ h then some (.str ((s.take h.toNat).drop l.toNat)) else none
      | _, _ => none
    else none
  | .slice es tok =>
    match sliceQ P t with
    | none => none
    | some e =>
      if (P.info? e).isSome ∧ sizesOk (P.cellsOf e) es = true then
        match (match hi with | none => some (.int .i64 es.length) | some h => some h : Option AV), (match lo with | none => some (.int .i64 0) | some l => some l : Option AV) with
        | some (.int _ h), some (.int _ l) =>
          if 0 ≤ h ∧ h ≤ es.length ∧ 0 ≤ l ∧ l ≤ h then
            some (.slice ((es.take h.toNat).drop l.toNat) (match hi, tok with | none, .clip => .clip | _, _ => .non))
          else none
        | _, _ => none
      else none
  | .sl id ver off len lim sz =>
    match sliceQ P t with
    | none => none
    | some e =>
      if (P.info? e).isSome ∧ sz = P.cellsOf e then
        match (match hi with | none => some (.int .i64 len) | some h => some h : Option AV), (match lo with | none => some (.int .i64 0) | some l => some l : Option AV) with
        | some (.int _ h), some (.int _ l) =>
          if 0 ≤ h ∧ h ≤ lim ∧ 0 ≤ l ∧ l ≤ h then
            (if l.toNat < lim then some (.sl id ver (off + l.toNat * sz) (h.toNat - l.toNat) (lim - l.toNat) sz) else some (.slice [] .non))
          else none
        | _, _ => none
      else none
  | _ => none
/-- with its room told: what has just its room has no spare -/
def evSlice3 (P : Program) (t : TypeId) (x : AV) (lo hi mx : Option AV) : Option AV :=
  match hi, mx with
  | some (.int _ h), some (.int _ m) =>
    match (match lo with | none => some 0 | some (.int _ l) => some l | _ => none : Option Int) with
    | none => none
    | some l =>
      if 0 ≤ l ∧ l ≤ h ∧ h ≤ m then
        match x with
        | .slice es tok =>
          match sliceQ P t with
          | none => none
          | some e => if (P.info? e).isSome ∧ sizesOk (P.cellsOf e) es = true ∧ m ≤ es.length then some (.slice ((es.take h.toNat).drop l.toNat) (if h = m then .clip else .non)) else none
        | .sl id ver off len lim sz =>
          match sliceQ P t with
          | none => none
          | some e => if (P.info? e).isSome ∧ sz = P.cellsOf e ∧ m ≤ lim then
              (if l < m then some (.sl id ver (off + l.toNat * sz) (h.toNat - l.toNat) (m.toNat - l.toNat) sz) else some (.slice [] .clip)) else none
        | _ => none
      else none
  | _, _ => none

/-- the parts of a struct or an array, laid over its zero -/
def fillA (place : Nat → Option (Nat × Nat)) : List (Nat × AV) → List AV → Option (List AV)
  | [], cs => some cs
  | (i, v) :: r, cs => match place i, v.cells? with
    | some (off, sz), some new => if new.length = sz then (match wrc off new cs with | some cs' => fillA place r cs' | none => none) else none
    | _, _ => none
def placeQ (P : Program) (t : TypeId) (i : Nat) : Option (Nat × Nat) :=
  match P.underlying t with
  | some (.struct fs) => match fs[i]? with
    | some f => some (f.offset, P.cellsOf f.type) | none => none
  | some (.array _ e) => some (i * P.cellsOf e, P.cellsOf e)
  | _ => none
/-- every field's type is known -/
def partsQ (P : Program) (t : TypeId) : Bool :=
  match P.underlying t with
  | some (.struct fs) => fs.all fun f => (P.info? f.type).isSome
  | some (.array _ e) => (P.info? e).isSome
  | _ => false
def evBuild (P : Program) (t : TypeId) (parts : List (Nat × AV)) : Option AV :=
  if partsQ P t then
    match zeroQ P t with
    | some z => match fillA (placeQ P t) parts z with
      | some cs => some (.agg cs) | none => none
    | none => none
  else none
/-- slice literals whose elements are all given, in order -/
def evElems (agg : Bool) (sz : Nat) : Nat → List (Nat × AV) → Option (List AV)
  | _, [] => some []
  | k, (i, v) :: r =>
    match v.cells? with
    | some cs => if i = k ∧ cs.length = sz ∧ (agg = true ∨ sz = 1) then
        (match evElems agg sz (k + 1) r with | some es => some (v :: es) | none => none) else none
    | none => none
def evBuildSlice (P : Program) (t : TypeId) (len : Nat) (parts : List (Nat × AV)) : Option AV :=
  match sliceQ P t with
  | some e => match zeroQ P e with
    | some z =>
      if len * P.cellsOf e ≤ 16777216 ∧ parts.length = len ∧ z.length = P.cellsOf e ∧ z.length ≠ 0 then
        match evElems (aggQ P e) (P.cellsOf e) 0 parts with
        | some es => some (.slice es .clip) | none => none
      else none
    | none => none
  | none => none

/-! ### builtins -/
def evLen (P : Program) (t : TypeId) (x : AV) : Option AV :=
  match x with
  | .str s => if strQ P t then some (.int .i64 s.length) else none
  | .slice es _ => match sliceQ P t with
    | some _ => some (.int .i64 es.length) | none => none
  | .sl _ _ _ len _ _ => match sliceQ P t with
    | some _ => some (.int .i64 len) | none => none
  | _ => none
def elemsOf (x : AV) : Option (List AV) :=
  match x with
  | .slice es _ => some es
  | .str s => some (s.map fun b => .int .u8 b.toNat)
  | _ => none
def evAppend (P : Program) (ts : List TypeId) (s x : AV) (S : St) : Option (AV × St) :=
  match ts with
  | ty :: tx :: _ =>
    match sliceQ P ty, (match P.underlying tx with | some (.int _) => none | none => none | some _ => some () : Option Unit) with
    | some e, some () =>
      match s, elemsOf x with
      | .slice es tok, some xs =>
        match zeroQ P e with
        | none => none
        | some z =>
          if z.length = P.cellsOf e ∧ z.length ≠ 0 ∧ P.bytesOf e ≠ 0 ∧ (es.length + xs.length) * P.bytesOf e ≤ 70368744177664 ∧ (es.length + xs.length) * P.cellsOf e ≤ 70368744177664 ∧
             sizesOk (P.cellsOf e) es = true ∧ sizesOk (P.cellsOf e) xs = true then
            if xs = [] then some (.slice es tok, S)
            else match tok with
              | .clip => some (.slice (es ++ xs) (.own S.T.length ((es.length + xs.length) * P.cellsOf e)), { S with T := S.T ++ [(es.length + xs.length) * P.cellsOf e] })
              | .own k pos => if S.T[k]? = some pos then some (.slice (es ++ xs) (.own k (pos + xs.length * P.cellsOf e)), { S with T := S.T.set k (pos + xs.length * P.cellsOf e) }) else none
              | _ => none
          else none
      | _, _ => none
    | _, _ => none
  | _ => none

/-- all cells of some elements -/
def flatQ : List AV → Option (List AV)
  | [] => some []
  | e :: es => match e.cells?, flatQ es with
    | some cs, some l => some (cs ++ l) | _, _ => none
/-- elements out of cells -/
def chunks (agg : Bool) (sz : Nat) : Nat → List AV → List AV
  | 0, _ => []
  | n + 1, cs => (if agg then [.agg (cs.take sz)] else cs.take 1) ++ chunks agg sz n (cs.drop sz)
/-- the cells that are handed on: an immutable one's, a text's, a row's -/
def srcCells (sz : Nat) (x : AV) (S : St) : Option (List AV) :=
  match x with
  | .sl id ver off len _ sz' => match (S.H[id]?).bind (rowC · ver) with
    | some cs => if sz' = sz ∧ off + len * sz ≤ cs.length then some ((cs.drop off).take (len * sz)) else none
    | none => none
  | y => match elemsOf y with
    | some es => if sizesOk sz es then flatQ es else none
    | none => none
def srcLen (x : AV) : Option Nat :=
  match x with
  | .sl _ _ _ len _ _ => some len
  | .slice es _ => some es.length
  | .str s => some s.length
  | _ => none
/-- an append that may write on a row -/
def evAppendM (P : Program) (ts : List TypeId) (s x : AV) (S : St) : Option (AV × St × FP) :=
  match ts with
  | ty :: tx :: _ =>
    match sliceQ P ty, (match P.underlying tx with | some (.int _) => none | none => none | some _ => some () : Option Unit) with
    | some e, some () =>
      match zeroQ P e, srcCells (P.cellsOf e) x S, srcLen x with
      | some z, some new, some n =>
        if z.length = P.cellsOf e ∧ z.length ≠ 0 ∧ P.bytesOf e ≠ 0 ∧ AV.sealedL new = true then
          match s with
          | .sl id ver off len lim sz =>
            if sz = P.cellsOf e ∧ (len + n) * P.bytesOf e ≤ 70368744177664 ∧ (len + n) * P.cellsOf e ≤ 70368744177664 then
              if n = 0 then some (s, S, .rh) else
              match S.H[id]? with
              | some bx => match rowC bx ver with
                | some old =>
                  if len + n ≤ lim then
                    match wrc (off + len * sz) new old with
                    | some cs => some (.sl id ver off (len + n) lim sz, { S with H := S.H.set id ⟨bx.ty, .int .i64 ver :: cs⟩ }, .wh)
                    | none => none
                  else if off = 0 ∧ len * sz ≤ old.length ∧ bx.ty = rowT + e then
                    some (.sl id (ver + 1) 0 (len + n) (len + n) sz, { S with H := S.H.set id ⟨bx.ty, .int .i64 ((ver + 1 : Nat) : Int) :: (old.take (len * sz) ++ new)⟩ }, .wh)
                  else none
                | none => none
              | none => none
            else none
          | .slice es .clip =>
            if sizesOk (P.cellsOf e) es = true ∧ (es.length + n) * P.bytesOf e ≤ 70368744177664 ∧ (es.length + n) * P.cellsOf e ≤ 70368744177664 ∧ e < 1048576 then
              if n = 0 then some (s, S, .rh) else
              match flatQ es with
              | some old => if AV.sealedL old = true then
                  some (.sl S.H.length 0 0 (es.length + n) (es.length + n) (P.cellsOf e), { S with H := S.H ++ [⟨rowT + e, .int .i64 0 :: (old ++ new)⟩] }, .wh)
                else none
              | none => none
            else none
          | _ => none
        else none
      | _, _, _ => none
    | _, _ => none
  | _ => none
/-- cells written over a row's -/
def evCopyM (P : Program) (ts : List TypeId) (d x : AV) (S : St) : Option (AV × St) :=
  match ts with
  | ty :: _ =>
    match sliceQ P ty with
    | some e =>
      match d, srcCells (P.cellsOf e) x S, srcLen x with
      | .sl id ver off len _ sz, some new, some n =>
        if sz = P.cellsOf e ∧ (P.info? e).isSome ∧ AV.sealedL new = true then
          match S.H[id]? with
          | some bx => match rowC bx ver with
            | some old => match wrc off (new.take (min n len * sz)) old with
              | some cs => some (.int .i64 (min n len : Nat), { S with H := S.H.set id ⟨bx.ty, .int .i64 ver :: cs⟩ })
              | none => none
            | none => none
          | none => none
        else none
      | _, _, _ => none
    | none => none
  | _ => none
def zerosA (z : List AV) : Nat → List AV
  | 0 => []
  | n + 1 => z ++ zerosA z n
def evClearM (P : Program) (ts : List TypeId) (d : AV) (S : St) : Option (AV × St) :=
  match ts with
  | ty :: _ =>
    match sliceQ P ty with
    | some e => match zeroQ P e, d with
      | some z, .sl id ver off len _ sz =>
        if sz = P.cellsOf e ∧ z.length = sz ∧ AV.sealedL z = true then
          match S.H[id]? with
          | some bx => match rowC bx ver with
            | some old => match wrc off (zerosA z len) old with
              | some cs => some (.tup [], { S with H := S.H.set id ⟨bx.ty, .int .i64 ver :: cs⟩ })
              | none => none
            | none => none
          | none => none
        else none
      | some _, .slice [] _ => some (.tup [], S)
      | _, _ => none
    | none => none
  | _ => none

/-! ### maps -/
/-- keys that are held against each other: numbers, texts, and structs of these -/
def keyEq : AV → AV → Bool
  | .int k a, .int k' b => decide (k = k') && a == b
  | .str a, .str b => a == b
  | .agg [.str a, .str b], .agg [.str c, .str d] => a == c && b == d
  | _, _ => false
/-- a key of its type: what keys there may be -/
inductive KeyK where
  | int (k : IntKind) | str | two
def keyK (P : Program) (t : TypeId) : Option KeyK :=
  match P.underlying t with
  | some (.int k) => some (.int k)
  | some .string => some .str
  | some (.struct fs) =>
    match fs.toList with
    | [f, g] => if strQ P f.type ∧ strQ P g.type ∧ f.offset = 0 ∧ g.offset = 1 ∧ P.cellsOf f.type = 1 ∧ P.cellsOf g.type = 1 ∧ f.name ≠ "_" ∧ g.name ≠ "_" ∧ P.stoodInHeld t = false then some .two else none
    | _ => none
  | _ => none
def keyIs : KeyK → AV → Bool
  | .int k, .int k' _ => decide (k = k')
  | .str, .str _ => true
  | .two, .agg [.str _, .str _] => true
  | _, _ => false
def allK (kk : KeyK) : List AV → Bool
  | [] => true
  | .tup [k, _] :: r => keyIs kk k && allK kk r
  | _ :: _ => false
def findM (k : AV) : List AV → Option AV
  | [] => none
  | .tup [k', v] :: r => if keyEq k k' then some v else findM k r
  | _ :: _ => none
def putM (k v : AV) : List AV → List AV
  | [] => [.tup [k, v]]
  | .tup [k', v'] :: r => if keyEq k k' then .tup [k, v] :: r else .tup [k', v'] :: putM k v r
  | e :: r => e :: putM k v r
def mapQ (P : Program) (t : TypeId) : Option (KeyK × TypeId) :=
  match P.underlying t with
  | some (.map k e) => match keyK P k with
    | some kk => some (kk, e) | none => none
  | _ => none
def entriesOf (x : AV) (S : St) : Option (List AV × FP) :=
  match x with
  | .nilm => some ([], .non)
  | .mp id => match S.H[id]? with
    | some bx => if isMap bx then some (bx.cs, .ro id) else none
    | none => none
  | _ => none
def evLookup (P : Program) (t : TypeId) (x k : AV) (commaOk : Bool) (S : St) : Option (AV × FP) :=
  match mapQ P t with
  | none => none
  | some (kk, e) =>
    if keyIs kk k then
      match entriesOf x S with
      | some (es, fp) =>
        if allK kk es = false then none else
        match findM k es with
        | some v => some (if commaOk then .tup [v, .bool true] else v, fp)
        | none => match zvQ P e with
          | some z => some (if commaOk then .tup [z, .bool false] else z, fp)
          | none => none
      | none => none
    else none
def evMapUpdate (P : Program) (t : TypeId) (x k v : AV) (S : St) : Option (St × FP) :=
  match mapQ P t, x, v.cells? with
  | some (kk, _), .mp id, some cs =>
    if keyIs kk k && AV.sealedL cs && k.sealed then
      match S.H[id]? with
      | some bx => if isMap bx && allK kk bx.cs then some ({ S with H := S.H.set id ⟨bx.ty, putM k v bx.cs⟩ }, .wo id) else none
      | none => none
    else none
  | _, _, _ => none

def goOp (S : St) (b : Nat → Nat × List AV) : Option AV → Option OR
  | some v => some (.val v b S .non)
  | none => none

def rhoL (t : Nat → AV) (l : Array Operand) : List AV := l.toList.map (rho t)

def evMin2 : AV → AV → Option AV
  | .int k x, .int k' y => if k = k' then some (.int k (if y < x then y else x)) else none
  | _, _ => none
def evMax2 : AV → AV → Option AV
  | .int k x, .int k' y => if k = k' then some (.int k (if y > x then y else x)) else none
  | _, _ => none

def evBuiltin (cx : Ctx) (bi : Builtin) (ts : List TypeId) (args : List AV) (fs : FS) : Option OR :=
  match bi with
  | .len => match ts, args with
    | t :: _, x :: _ => goOp fs.S fs.b (evLen cx.P t x) | _, _ => none
  | .min => match args with
    | [x, y] => goOp fs.S fs.b (evMin2 x y) | _ => none
  | .max => match args with
    | [x, y] => goOp fs.S fs.b (evMax2 x y) | _ => none
  | .append => match args with
    | [s, x] => match evAppend cx.P ts s x fs.S with
      | some (v, S') => some (.val v fs.b S' .wh) | none => none
    | _ => none
  | _ => none

def isSl : AV → Bool
  | .sl .. => true
  | _ => false
/-- a builtin that writes on rows, or makes one, or takes of one -/
def evBuiltinM (cx : Ctx) (bi : Builtin) (mk : Bool) (ts : List TypeId) (args : List AV) (fs : FS) : Option OR :=
  match bi, args with
  | .append, [s, x] =>
    if (mk || isSl s) = true then
      match evAppendM cx.P ts s x fs.S with
      | some (v, S', fp) => some (.val v fs.b S' fp) | none => none
    else
      match ts.head?.bind (sliceQ cx.P) with
      | some e => if (aggQ cx.P e || cx.P.cellsOf e == 1) = false then none else match srcCells (cx.P.cellsOf e) x fs.S, srcLen x with
        | some cs, some n => match evAppend cx.P ts s (.slice (chunks (aggQ cx.P e) (cx.P.cellsOf e) n cs) .non) fs.S with
          | some (v, S') => some (.val v fs.b S' .wh) | none => none
        | _, _ => none
      | none => none
  | .copy, [d, x] => match evCopyM cx.P ts d x fs.S with
    | some (v, S') => some (.val v fs.b S' .wh) | none => none
  | .clear, [d] => match evClearM cx.P ts d fs.S with
    | some (v, S') => some (.val v fs.b S' .wh) | none => none
  | _, _ => none
def evBuiltinQ (cx : Ctx) (bi : Builtin) (mk : Bool) (ts : List TypeId) (args : List AV) (fs : FS) : Option OR :=
  if mk then evBuiltinM cx bi mk ts args fs else
  match evBuiltin cx bi ts args fs with
  | some r => some r
  | none => evBuiltinM cx bi mk ts args fs
def mkQ (cx : Ctx) : Option Tmp → Bool
  | some d => cx.esc d
  | none => false

def evCallee (call : Cal) (fs : FS) (f : AV) (args : List AV) : Option OR :=
  match f with
  | .fn g first cap => match call g (first ++ (args ++ cap)) fs.S with
    | some (.ret v, S') => some (.val v fs.b S' .wh)
    | some (.pan v, S') => some (.pan v S')
    | none => none
  | _ => none

mutual
def avEq : AV → AV → Bool
  | .junk, .junk => true | .undef, .undef => true | .nilp, .nilp => true | .nilif, .nilif => true
  | .bool a, .bool b => a == b
  | .int k a, .int k' b => decide (k = k') && a == b
  | .str a, .str b => a == b
  | .agg a, .agg b => avEqL a b | .tup a, .tup b => avEqL a b | .ref a, .ref b => avEqL a b
  | .slice a .non, .slice b .non => avEqL a b | .slice a .clip, .slice b .clip => avEqL a b
  | .slice a (.own t p), .slice b (.own u q) => t == u && p == q && avEqL a b
  | .slice a (.knil p), .slice b (.knil q) => p == q && avEqL a b
  | .loc a b c d, .loc a' b' c' d' => a == a' && b == b' && c == c' && d == d'
  | .ptr a b, .ptr a' b' => a == a' && b == b'
  | .fn f a b, .fn f' a' b' => f == f' && avEqL a a' && avEqL b b'
  | .iface t a, .iface t' a' => t == t' && avEq a a'
  | .sl a b c d e f, .sl a' b' c' d' e' f' => a == a' && b == b' && c == c' && d == d' && e == e' && f == f'
  | .rp a b c, .rp a' b' c' => a == a' && b == b' && c == c'
  | .mp a, .mp a' => a == a' | .nilm, .nilm => true
  | _, _ => false
def avEqL : List AV → List AV → Bool
  | [], [] => true
  | a :: l, b :: m => avEq a b && avEqL l m
  | _, _ => false
end
def boxEqL : List HBox → List HBox → Bool
  | [], [] => true
  | a :: l, b :: m => a.ty == b.ty && avEqL a.cs b.cs && boxEqL l m
  | _, _ => false

/-- a call (of a slot that is listed) that is to leave all outside as it is, or to add boxes alone -/
def evCalm (call : Cal) (fs : FS) (f : AV) (args : List AV) : Option OR :=
  match evCallee call fs f args with
  | some (.val v b S' _) => if boxEqL S'.H fs.S.H && S'.T == fs.S.T then some (.val v b fs.S .rh) else if boxEqL (S'.H.take fs.S.H.length) fs.S.H then some (.val v b S' (.nw fs.S.H.length)) else none
  | _ => none

def evOp (cx : Ctx) (call : Cal) (i : Nat) (o : Oper) (fs : FS) : Option OR :=
  match o.op with
  | .move x => some (.val (rho fs.t x) fs.b fs.S .non)
  | .assign x => some (.val (rho fs.t x) fs.b fs.S .non)
  | .pick c a b => match rho fs.t c with
    | .bool q => some (.val (if q then rho fs.t a else rho fs.t b) fs.b fs.S .non)
    | _ => none
  | .alloc ty => match zeroQ cx.P ty with
    | some z => evBox cx i o.dst ty z fs | none => none
  | .box ty x => match (rho fs.t x).cells? with
    | some cs => evBox cx i o.dst ty cs fs | none => none
  | .build t parts => goOp fs.S fs.b (evBuild cx.P t (parts.toList.map fun p => (p.1, rho fs.t p.2)))
  | .buildSlice t len parts => goOp fs.S fs.b (evBuildSlice cx.P t len (parts.toList.map fun p => (p.1, rho fs.t p.2)))
  | .load t a => evLoad cx t (rho fs.t a) fs
  | .store t a x => evStore cx t (rho fs.t a) (rho fs.t x) fs
  | .nilCheck x => match rho fs.t x with
    | .ref cs => some (.val (.ref cs) fs.b fs.S .non)
    | .loc a b c d => some (.val (.loc a b c d) fs.b fs.S .non)
    | .ptr a b => some (.val (.ptr a b) fs.b fs.S .non)
    | .rp a b c => some (.val (.rp a b c) fs.b fs.S .non)
    | _ => none
  | .binOp op xt x y _ => goOp fs.S fs.b (evB2 cx.P xt (isC x || isC y) op (rho fs.t x) (rho fs.t y))
  | .unOp op _ x => goOp fs.S fs.b (evUn op (rho fs.t x))
  | .convert s d x => goOp fs.S fs.b (evConv cx.P s d (rho fs.t x))
  | .makeInterface t x => if concQ cx.P t then some (.val (.iface t (rho fs.t x)) fs.b fs.S .non) else none
  | .makeFunc (.func f) first cap => some (.val (.fn f (rhoL fs.t first) (rhoL fs.t cap)) fs.b fs.S .non)
  | .slice t x lo hi (some m) => goOp fs.S fs.b (evSlice3 cx.P t (rho fs.t x) (lo.map (rho fs.t)) (hi.map (rho fs.t)) (some (rho fs.t m)))
  | .makeMap t none => if (mapQ cx.P t).isSome then some (.val (.mp fs.S.H.length) fs.b { fs.S with H := fs.S.H ++ [⟨mapT + t, []⟩] } .wh) else none
  | .lookup t x k ok => match evLookup cx.P t (rho fs.t x) (rho fs.t k) ok fs.S with
    | some (v, fp) => some (.val v fs.b fs.S fp) | none => none
  | .mapUpdate t x k v => match evMapUpdate cx.P t (rho fs.t x) (rho fs.t k) (rho fs.t v) fs.S with
    | some (S', fp) => some (.val .undef fs.b S' fp) | none => none
  | .slice t x lo hi none => goOp fs.S fs.b (evSlice cx.P t (rho fs.t x) (lo.map (rho fs.t)) (hi.map (rho fs.t)))
  | .fieldAddr s x f => goOp fs.S fs.b (evFieldAddr cx.P s (rho fs.t x) f)
  | .field t x f => goOp fs.S fs.b (evField cx.P t (rho fs.t x) f)
  | .indexAddr t x ix => goOp fs.S fs.b (evIndexAddr cx.P t (rho fs.t x) (rho fs.t ix))
  | .index t x ix => goOp fs.S fs.b (evIndex cx.P t (rho fs.t x) (rho fs.t ix))
  | .extract x k => match rho fs.t x with
    | .tup vs => goOp fs.S fs.b vs[k]? | _ => none
  | .call ⟨.value f, args, _⟩ => if mkQ cx o.dst = true then evCalm call fs (rho fs.t f) (rhoL fs.t args) else evCallee call fs (rho fs.t f) (rhoL fs.t args)
  | .call ⟨.builtin bi, args, ts⟩ => evBuiltinQ cx bi (mkQ cx o.dst) ts.toList (rhoL fs.t args) fs
  | .panic x => match rho fs.t x with
    | .iface t v => some (.pan (.iface t v) fs.S) | _ => none
  | .typeAssert x _ t true => goOp fs.S fs.b (evAssert cx.P t (rho fs.t x))
  | _ => none

/-! ### a region -/
def putA (t : Nat → AV) (dst : Option Tmp) (v : AV) : Nat → AV :=
  match dst with
  | some d => upd d v t | none => t

/-- is it to be done? (Its guard's operation must have left a bool, or nothing.) -/
def wantedA (gd : Option (Nat × Bool)) (ops : Array Oper) (t : Nat → AV) : Option Bool :=
  match gd with
  | none => some true
  | some (j, want) => match (ops[j]?).bind (·.dst) with
    | some d => match t d with
      | .bool q => some (q == want)
      | .undef => some false
      | _ => none
    | none => none

inductive OutS where
  | ok (fs : FS) (fp : FP)
  | pan (v : AV) (fs : FS)

def stepA (cx : Ctx) (call : Cal) (ops : Array Oper) (i : Nat) (o : Oper) (fs : FS) : Option OutS :=
  match wantedA o.guard ops fs.t with
  | some true => match evOp cx call i o fs with
    | some (.val v b S fp) => some (.ok ⟨putA fs.t o.dst v, b, fs.c, S⟩ fp)
    | some (.pan v S) => some (.pan v ⟨fs.t, fs.b, fs.c, S⟩)
    | none => none
  | some false => some (.ok ⟨putA fs.t o.dst .undef, fs.b, fs.c, fs.S⟩ .non)
  | none => none

/-- in any order -/
def seqA (cx : Ctx) (call : Cal) (ops : Array Oper) : List Nat → FS → Option OutS
  | [], fs => some (.ok fs .non)
  | i :: l, fs => match ops[i]? with
    | none => none
    | some o => match stepA cx call ops i o fs with
      | some (.ok fs' _) => seqA cx call ops l fs'
      | r => r
/-- in the order of the text -/
def lexA (cx : Ctx) (call : Cal) (ops : Array Oper) : Nat → List Oper → FS → Option OutS
  | _, [], fs => some (.ok fs .non)
  | i, o :: l, fs => match stepA cx call ops i o fs with
    | some (.ok fs' _) => lexA cx call ops (i + 1) l fs'
    | r => r
/-- likewise, with what each has touched; or which one panicked, and with what -/
inductive DR where
  | ok (fs : FS) (fps : List FP)
  | pan (v : AV) (fs : FS) (i : Nat) (fps : List FP)
def lexF (cx : Ctx) (call : Cal) (ops : Array Oper) : Nat → List Oper → FS → List FP → Option DR
  | _, [], fs, fps => some (.ok fs fps)
  | i, o :: l, fs, fps => match stepA cx call ops i o fs with
    | some (.ok fs' fp) => lexF cx call ops (i + 1) l fs' (fps ++ [fp])
    | some (.pan v fs') => some (.pan v fs' i fps)
    | none => none

def FP.clash : FP → FP → Bool
  | .rl d, .wl e => d == e | .wl d, .rl e => d == e | .wl d, .wl e => d == e
  | .rh, .wh => true | .wh, .rh => true | .wh, .wh => true
  | .ro d, .wo e => d == e | .wo d, .ro e => d == e | .wo d, .wo e => d == e
  | .ro _, .wh => true | .wh, .ro _ => true | .wo _, .wh => true | .wh, .wo _ => true | .rh, .wo _ => true | .wo _, .rh => true
  | .nw _, .nw _ => true | .nw _, .wh => true | .wh, .nw _ => true | .nw _, .rh => true | .rh, .nw _ => true | .nw _, .wo _ => true | .wo _, .nw _ => true
  | .nw n, .ro e => decide (n ≤ e) | .ro e, .nw n => decide (n ≤ e)
  | _, _ => false
def noClash (fps : List FP) : List (Nat × Nat) → Bool
  | [] => true
  | (i, j) :: l => (i == j || (match fps[i]?, fps[j]? with | some a, some b => !FP.clash a b | _, _ => true)) && noClash fps l
/-- a pair (i, i) says: operation i, a call, may panic -/
def panIn (i : Nat) : List (Nat × Nat) → Bool
  | [] => false
  | (a, b) :: l => (a == i && b == i) || panIn i l

/-! ### code -/
inductive Out where
  | norm | exit (id : Nat) | ret | pan (v : AV)

def iter : Nat → (FS → Option (Out × FS)) → FS → Option (Out × FS)
  | 0, _, _ => none
  | k + 1, body, fs => match body fs with
    | some (.norm, fs') => iter k body fs'
    | r => r

def afterRegion (n : Nat) : Option OutS → Option (Out × FS)
  | some (.ok fs _) => some (.norm, ⟨fs.t, fs.b, fs.c + n, fs.S⟩)
  | some (.pan v fs) => some (.pan v, fs)
  | none => none
/-- behind a panic in no order: nothing is known of the frame -/
def lostF (fs : FS) : FS := ⟨fun _ => .junk, fun _ => (0, []), fs.c, fs.S⟩
def afterDraw (n : Nat) (ps : List (Nat × Nat)) : Option DR → Option (Out × FS)
  | some (.ok fs fps) => if noClash fps ps then some (.norm, ⟨fs.t, fs.b, fs.c + n, fs.S⟩) else none
  | some (.pan v fs i fps) => if panIn i ps && noClash (fps ++ [.wh]) ps then some (.pan v, lostF fs) else none
  | none => none

/-! a panic ahead of what does not wait for it: as if that stood ahead of it (said by a first pair (4096 + i, 4096 + i)) -/
def permOf (l : List (Nat × Nat)) : Option Nat :=
  match l with
  | (a, b) :: _ => if a = b ∧ 4096 ≤ a then some (a - 4096) else none
  | [] => none
def permL (ops : Array Oper) (i : Nat) : List Nat :=
  ((List.range ops.size).filter fun k => k != i && !((Region.before ops).getD k 0).testBit i) ++ i :: ((List.range ops.size).filter fun k => ((Region.before ops).getD k 0).testBit i)
def renO (g : Nat → Nat) (o : Oper) : Oper := { o with after := o.after.map fun e => { e with on := g e.on }, guard := o.guard.map fun p => (g p.1, p.2) }
def permOps (l : List Nat) (ops : Array Oper) : Array Oper := (l.map fun k => renO (fun i => l.idxOf i) (ops.getD k default)).toArray
def permPs (l : List Nat) (i : Nat) (ps : List (Nat × Nat)) : List (Nat × Nat) :=
  (l.idxOf i, l.idxOf i) :: ps.tail.map fun p => (min (l.idxOf p.1) (l.idxOf p.2), max (l.idxOf p.1) (l.idxOf p.2))

def evCode (cx : Ctx) (call : Cal) (ps : Nat → List (Nat × Nat)) (L : Nat) : Code → FS → Option (Out × FS)
  | .skip, fs => some (.norm, fs)
  | .region _ ops false, fs => afterRegion ops.size (lexA cx call ops 0 ops.toList fs)
  | .region id ops true, fs => match permOf (ps id) with
    | none => afterDraw ops.size (ps id) (lexF cx call ops 0 ops.toList fs [])
    | some i => afterDraw ops.size (permPs (permL ops i) i (ps id)) (lexF cx call (permOps (permL ops i) ops) 0 (permOps (permL ops i) ops).toList fs [])
  | .seq x y, fs => match evCode cx call ps L x fs with
    | some (.norm, fs') => evCode cx call ps L y fs'
    | r => r
  | .cond c x y, fs => match rho fs.t c with
    | .bool true => evCode cx call ps L x fs
    | .bool false => evCode cx call ps L y fs
    | _ => none
  | .block id c, fs => match evCode cx call ps L c fs with
    | some (.exit k, fs') => if k = id then some (.norm, fs') else some (.exit k, fs')
    | r => r
  | .loop c, fs => iter L (evCode cx call ps L c) fs
  | .exit id, fs => some (.exit id, fs)
  | .ret, fs => some (.ret, fs)
  | _, _ => none

/-! ### calls -/
mutual
/-- tokens from t0 on forgotten -/
def AV.strip (t0 : Nat) : AV → AV
  | .agg cs => .agg (AV.stripL t0 cs) | .tup cs => .tup (AV.stripL t0 cs) | .ref cs => .ref (AV.stripL t0 cs)
  | .slice es (.own t p) => if t < t0 then .slice (AV.stripL t0 es) (.own t p) else .slice (AV.stripL t0 es) .non
  | .slice es .non => .slice (AV.stripL t0 es) .non
  | .slice es .clip => .slice (AV.stripL t0 es) .clip
  | .slice es (.knil _) => .slice (AV.stripL t0 es) .non
  | .fn f a b => .fn f (AV.stripL t0 a) (AV.stripL t0 b)
  | .iface t v => .iface t (v.strip t0)
  | .junk => .junk | .undef => .undef | .bool b => .bool b | .int k n => .int k n | .str s => .str s
  | .nilp => .nilp | .nilif => .nilif | .loc a b c d => .loc a b c d | .ptr a b => .ptr a b
  | .sl a b c d e f => .sl a b c d e f | .rp a b c => .rp a b c | .mp a => .mp a | .nilm => .nilm
def AV.stripL (t0 : Nat) : List AV → List AV
  | [] => []
  | a :: l => a.strip t0 :: AV.stripL t0 l
end
mutual
/-- no box from h0 on, no token from t0 on -/
def AV.low (h0 t0 : Nat) : AV → Bool
  | .ptr id _ => decide (id < h0) | .sl id .. => decide (id < h0) | .rp id _ _ => decide (id < h0) | .mp id => decide (id < h0)
  | .slice es (.own t _) => decide (t < t0) && AV.lowL h0 t0 es
  | .slice es _ => AV.lowL h0 t0 es
  | .agg cs => AV.lowL h0 t0 cs | .tup cs => AV.lowL h0 t0 cs | .ref cs => AV.lowL h0 t0 cs
  | .fn _ a b => AV.lowL h0 t0 a && AV.lowL h0 t0 b
  | .iface _ v => v.low h0 t0
  | _ => true
def AV.lowL (h0 t0 : Nat) : List AV → Bool
  | [] => true
  | a :: l => a.low h0 t0 && AV.lowL h0 t0 l
end

/-- what boxes hold, of that kind -/
def lowB (h0 t0 : Nat) : List HBox → Bool
  | [] => true
  | a :: l => AV.lowL h0 t0 a.cs && lowB h0 t0 l
/-- what the caller sees: where nothing outside has turned, the world is as it was; new boxes that nothing looks at are forgotten -/
def finish (S : St) (v : AV) (S' : St) : Option (AV × St) :=
  if v.sealed then
    if boxEqL (S'.H.take S.H.length) S.H && S'.T.take S.T.length == S.T && (v.strip S.T.length).low S.H.length S.T.length then some (v.strip S.T.length, S)
    else if decide (S.H.length ≤ S'.H.length) && S'.T.take S.T.length == S.T && lowB S.H.length S.T.length (S'.H.take S.H.length) && (v.strip S.T.length).low S.H.length S.T.length then some (v.strip S.T.length, ⟨S'.H.take S.H.length, S.T⟩)
    else if decide (S.H.length ≤ S'.H.length) && lowB S.H.length S'.T.length (S'.H.take S.H.length) && v.low S.H.length S'.T.length then some (v, ⟨S'.H.take S.H.length, S'.T⟩)
    else some (v, S')
  else none

def resA (P : Program) (cx : Ctx) (fs : FS) : List ResultVar → Option (List AV)
  | [] => some []
  | .tmp t :: l => match resA P cx fs l with
    | some r => some (fs.t t :: r) | none => none
  | .cell a ty :: l => match evLoad cx ty (fs.t a) fs, resA P cx fs l with
    | some (.val v _ _ _), some r => some (v :: r) | _, _ => none
def oneOf : List AV → AV
  | [v] => v
  | vs => .tup vs

def finRet (S : St) (v : AV) (S' : St) : Option (Res × St) :=
  match finish S v S' with
  | some (v, S'') => some (.ret v, S'') | none => none
def finPan (S : St) (v : AV) (S' : St) : Option (Res × St) :=
  match finish S v S' with
  | some (v, S'') => some (.pan v, S'') | none => none
def fromBody (P : Program) (cx : Ctx) (S : St) (rs : List ResultVar) : Option (Out × FS) → Option (Res × St)
  | some (.norm, fs) => match resA P cx fs rs with
    | some vs => finRet S (oneOf vs) fs.S | none => none
  | some (.ret, fs) => match resA P cx fs rs with
    | some vs => finRet S (oneOf vs) fs.S | none => none
  | some (.pan v, fs) => finPan S v fs.S
  | _ => none

/-- which functions are followed, which boxes lie outside, which operations of a region that draws are in no order; and functions that are proved by hand -/
structure Env where
  ok : FuncId → Bool
  esc : FuncId → Tmp → Bool
  ps : FuncId → Nat → List (Nat × Nat)
  ext : FuncId → List AV → St → Option (Res × St)
  /-- those that defer one call (a closure's), at the head of their text's row -/
  dfr : FuncId → Bool := fun _ => false
  /-- those that ask whether their first argument, a slice, is nil -/
  fork : FuncId → Bool := fun _ => false

def argsA (args : List AV) : Nat → AV := fun x => match args[x]? with | some a => a | none => .undef

def evFunc (P : Program) (E : Env) (call : Cal) (n : Nat) (f : FuncId) (args : List AV) (S : St) : Option (Res × St) :=
  match P.funcs[f]? with
  | none => none
  | some fn => match fn.body with
    | none => none
    | some c =>
      if args.length ≤ fn.ntmps ∧ (fn.name == "runtime.NumGoroutine") = false then
        fromBody P ⟨P, E.esc f, n⟩ S fn.results.toList (evCode ⟨P, E.esc f, n⟩ call (E.ps f) n c ⟨argsA args, fun _ => (0, []), 0, S⟩)
      else none

/-! ### a deferred call -/
def isDefer (o : Oper) : Option Call :=
  match o.op with
  | .defer c => if o.dst.isNone && o.guard.isNone then some c else none
  | _ => none
/-- a text, cut at its one 'defer': what stands ahead, the region that ends with it, its call, the rest -/
def cutD : Code → Option (Code × Array Oper × Call × Code)
  | .seq (.region id ops false) y =>
    match (ops.back?).bind isDefer with
    | some c => some (.skip, ops, c, y)
    | none => match cutD y with
      | some (A, r, c, B) => some (.seq (.region id ops false) A, r, c, B) | none => none
  | .seq x y => match cutD y with
    | some (A, r, c, B) => some (.seq x A, r, c, B) | none => none
  | _ => none
/-- a deferred call: whether it has recovered, and what is outside behind it; handed to it: what was panicked with -/
abbrev CalD := FuncId → List AV → St → Option AV → Option (Bool × St)

def isRecover (o : Oper) : Option Tmp :=
  match o.op with
  | .call ⟨.builtin .recover, args, _⟩ => if o.guard.isNone && args.isEmpty then o.dst else none
  | _ => none
/-- a text that begins with 'recover': that region's, where it puts what it gets, the rest -/
def cutR : Code → Option (Nat × Array Oper × Tmp × Code)
  | .seq (.region id ops false) y => match (ops[0]?).bind isRecover with
    | some d => some (id, ops, d, y) | none => none
  | _ => none
def endD (P : Program) (S : St) (rs : List ResultVar) (rec : Bool) : Option (Out × FS) → Option (Bool × St)
  | some (.norm, fs) => if rs.isEmpty then (match finish S (.tup []) fs.S with | some (_, S') => some (rec, S') | none => none) else none
  | some (.ret, fs) => if rs.isEmpty then (match finish S (.tup []) fs.S with | some (_, S') => some (rec, S') | none => none) else none
  | _ => none
def pvOf : Option AV → AV
  | some v => v | none => .nilif
def evDefer (P : Program) (E : Env) (call : Cal) (n : Nat) (f : FuncId) (args : List AV) (S : St) (pv : Option AV) : Option (Bool × St) :=
  match P.funcs[f]? with
  | none => none
  | some fn => match fn.body with
    | none => none
    | some c =>
      if args.length ≤ fn.ntmps ∧ (fn.name == "runtime.NumGoroutine") = false then
        match cutR c with
        | some (id, ops, d, y) =>
          match seqA ⟨P, E.esc f, n⟩ call ops (List.range' 1 (ops.size - 1)) ⟨upd d (pvOf pv) (argsA args), fun _ => (0, []), 0, S⟩ with
          | some (.ok fs _) => endD P S fn.results.toList pv.isSome (evCode ⟨P, E.esc f, n⟩ call (E.ps f) n y ⟨fs.t, fs.b, fs.c + ops.size, fs.S⟩)
          | _ => none
        | none => endD P S fn.results.toList false (evCode ⟨P, E.esc f, n⟩ call (E.ps f) n c ⟨argsA args, fun _ => (0, []), 0, S⟩)
      else none

/-- behind the body: the deferred call, then what is handed back -/
def fromD (P : Program) (cx : Ctx) (dc : CalD) (g : FuncId) (as : List AV) (S : St) (rs : List ResultVar) : Option (Out × FS) → Option (Res × St)
  | some (.norm, fs) => match dc g as fs.S none with
    | some (_, S') => (match resA P cx ⟨fs.t, fs.b, fs.c, S'⟩ rs with | some vs => finRet S (oneOf vs) S' | none => none) | none => none
  | some (.ret, fs) => match dc g as fs.S none with
    | some (_, S') => (match resA P cx ⟨fs.t, fs.b, fs.c, S'⟩ rs with | some vs => finRet S (oneOf vs) S' | none => none) | none => none
  | some (.pan v, fs) => match dc g as fs.S (some v) with
    | some (true, S') => (match resA P cx ⟨fs.t, fs.b, fs.c, S'⟩ rs with | some vs => finRet S (oneOf vs) S' | none => none)
    | some (false, S') => finPan S v S'
    | none => none
  | _ => none

def evFuncD (P : Program) (E : Env) (call : Cal) (dc : CalD) (n : Nat) (f : FuncId) (args : List AV) (S : St) : Option (Res × St) :=
  match P.funcs[f]? with
  | none => none
  | some fn => match fn.body with
    | none => none
    | some c =>
      if args.length ≤ fn.ntmps ∧ (fn.name == "runtime.NumGoroutine") = false then
        match cutD c with
        | some (A, ops, d, B) =>
          match evCode ⟨P, E.esc f, n⟩ call (E.ps f) n A ⟨argsA args, fun _ => (0, []), 0, S⟩ with
          | some (.norm, fs1) =>
            match seqA ⟨P, E.esc f, n⟩ call ops (List.range (ops.size - 1)) fs1 with
            | some (.ok fs2 _) =>
              match d.callee with
              | .value w =>
                match rho fs2.t w with
                | .fn g first cap => fromD P ⟨P, E.esc f, n⟩ dc g (first ++ (rhoL fs2.t d.args ++ cap)) S fn.results.toList (evCode ⟨P, E.esc f, n⟩ call (E.ps f) n B ⟨fs2.t, fs2.b, fs2.c + ops.size, fs2.S⟩)
                | _ => none
              | _ => none
            | _ => none
          | some (.ret, fs1) => fromBody P ⟨P, E.esc f, n⟩ S fn.results.toList (some (.ret, fs1))
          | some (.pan v, fs1) => finPan S v fs1.S
          | _ => none
        | none => none
      else none

/-- where the first argument is a slice of none: as if it were nil, and as if it were not; both must come to the same -/
def evFork (F : List AV → St → Option (Res × St)) (args : List AV) (S : St) : Option (Res × St) :=
  match args with
  | .slice [] tok :: r =>
    match F (.slice [] (.knil true) :: r) S, F (.slice [] (.knil false) :: r) S with
    | some (.ret v, S1), some (.ret u, S2) => if avEq v u && boxEqL S1.H S2.H && S1.T == S2.T then some (.ret v, S1) else none
    | _, _ => none
  | _ => F args S

/-- calls, and deferred calls, so deep -/
def evs (P : Program) (E : Env) : Nat → Cal × CalD
  | 0 => (fun _ _ _ => none, fun _ _ _ _ => none)
  | n + 1 => (fun f args S => if E.ok f then (if E.dfr f then evFuncD P E (evs P E n).1 (evs P E n).2 n f args S else if E.fork f then evFork (evFunc P E (evs P E n).1 n f) args S else evFunc P E (evs P E n).1 n f args S) else E.ext f args S,
      fun f args S pv => if E.ok f then evDefer P E (evs P E n).1 n f args S pv else none)
def ev (P : Program) (E : Env) (n : Nat) : Cal := (evs P E n).1
def evd (P : Program) (E : Env) (n : Nat) : CalD := (evs P E n).2
end Go.Proofs.YtcpoinfdnimanaaGreatDoor.AE
/- How the evaluator's values stand for the model's, and what such a relation bears. No condition. -/
namespace Go.Proofs.YtcpoinfdnimanaaGreatDoor.AE
set_option linter.unusedVariables false
set_option linter.unusedSimpArgs false
open Go Go.RowKit

/-- what is known of memory beside the world: cells that nobody writes any more; the blocks of boxes, of local boxes, of tokens (with how many cells); the frontiers -/
structure Gh where
  I : Nat → Nat → Option Value
  phi : Nat → Option Nat
  nu : Nat → Nat → Option Nat
  tau : Nat → Option (Nat × Nat)
  fr : Nat → Option Nat
  /-- a row's block, as it is since when, and how many cells it has -/
  rv : Nat → Nat → Option (Nat × Nat) := fun _ _ => none

def TokR (G : Gh) (tok : Tok) (es : List AV) (fl : List AV) (b o cap : Nat) : Prop :=
  match tok with
  | .non => True
  | .clip => cap = es.length
  | .knil b => b = false
  | .own t pos => ∃ n sz, es ≠ [] ∧ 0 < sz ∧ G.fr t = some n ∧ pos ≤ n ∧ fl.length = es.length * sz ∧
      (n = pos → ∃ m, o = 0 ∧ G.tau t = some (b, m) ∧ fl.length = pos ∧ cap * sz ≤ m)

mutual
inductive VR (G : Gh) : AV → Value → Prop where
  | junk (v : Value) : VR G .junk v
  | undef : VR G .undef (.tuple #[])
  | bool (b : Bool) : VR G (.bool b) (.bool b)
  | int (k : IntKind) (n : Int) : VR G (.int k n) (.int k n)
  | str (bs : ByteArray) : VR G (.str bs.data.toList) (.string bs)
  | agg (cs : List AV) (vs : Array Value) : VRL G cs vs.toList → VR G (.agg cs) (.agg vs)
  | tup (cs : List AV) (vs : Array Value) : VRL G cs vs.toList → VR G (.tup cs) (.tuple vs)
  | nilp : VR G .nilp (.pointer none)
  | ref (cs : List AV) (b o : Nat) : VRI G cs b o → VR G (.ref cs) (.pointer (some ⟨b, o, none⟩))
  | loc (dep d ver off b : Nat) : G.nu dep ver = some b → VR G (.loc dep d ver off) (.pointer (some ⟨b, off, none⟩))
  | ptr (id off b : Nat) : G.phi id = some b → VR G (.ptr id off) (.pointer (some ⟨b, off, none⟩))
  | fn (f : FuncId) (first cap : List AV) (fv cv : Array Value) : VRL G first fv.toList → VRL G cap cv.toList → VR G (.fn f first cap) (.func (.func f) fv cv)
  | iface (t : TypeId) (a : AV) (v : Value) : VR G a v → VR G (.iface t a) (.iface t v)
  | nilif : VR G .nilif .nilIface
  | nils (tok : Tok) (ad : Option Addr) : (∀ t p, tok ≠ .own t p) → (∀ q, tok = .knil q → ad.isNone = q) → VR G (.slice [] tok) (.slice ad 0 0)
  | slice (es : List AV) (tok : Tok) (fl : List AV) (b o cap sz : Nat) : es.length ≤ cap → flatQ es = some fl → VRI G fl b o → TokR G tok es fl b o cap → sizesOk sz es = true →
      VR G (.slice es tok) (.slice (some ⟨b, o, none⟩) es.length cap)
  | sl (id ver off len lim sz b m cap : Nat) : G.rv id ver = some (b, m) → len ≤ lim → lim ≤ cap → off + cap * sz ≤ m → VR G (.sl id ver off len lim sz) (.slice (some ⟨b, off, none⟩) len cap)
  | rp (id ver off b m : Nat) : G.rv id ver = some (b, m) → VR G (.rp id ver off) (.pointer (some ⟨b, off, none⟩))
  | mp (id b : Nat) : G.phi id = some b → VR G (.mp id) (.map (some b))
  | nilm : VR G .nilm (.map none)
inductive VRL (G : Gh) : List AV → List Value → Prop where
  | nil : VRL G [] []
  | cons (a : AV) (v : Value) (l : List AV) (m : List Value) : VR G a v → VRL G l m → VRL G (a :: l) (v :: m)
inductive VRI (G : Gh) : List AV → Nat → Nat → Prop where
  | nil (b o : Nat) : VRI G [] b o
  | cons (a : AV) (v : Value) (l : List AV) (b o : Nat) : G.I b o = some v → VR G a v → VRI G l b (o + 1) → VRI G (a :: l) b o
end

/-- G' knows all that G knows. -/
structure Gle (G G' : Gh) : Prop where
  I : ∀ b o v, G.I b o = some v → G'.I b o = some v
  phi : ∀ i b, G.phi i = some b → G'.phi i = some b
  nu : ∀ d v b, G.nu d v = some b → G'.nu d v = some b
  fr : ∀ t n, G.fr t = some n → ∃ n', G'.fr t = some n' ∧ n ≤ n' ∧ (n' = n → G'.tau t = G.tau t)
  rv : ∀ i v x, G.rv i v = some x → G'.rv i v = some x

theorem Gle.refl (G : Gh) : Gle G G := ⟨fun _ _ _ h => h, fun _ _ h => h, fun _ _ _ h => h, fun _ n h => ⟨n, h, Nat.le_refl _, fun _ => rfl⟩, fun _ _ _ h => h⟩
theorem Gle.trans {A B C : Gh} (h : Gle A B) (k : Gle B C) : Gle A C :=
  ⟨fun b o v e => k.I b o v (h.I b o v e), fun i b e => k.phi i b (h.phi i b e), fun d v b e => k.nu d v b (h.nu d v b e), fun t n e => by
    obtain ⟨n1, e1, l1, t1⟩ := h.fr t n e
    obtain ⟨n2, e2, l2, t2⟩ := k.fr t n1 e1
    exact ⟨n2, e2, by omega, fun hn => by rw [t2 (by omega), t1 (by omega)]⟩, fun i v x e => k.rv i v x (h.rv i v x e)⟩

theorem TokR.mono {G G' : Gh} (h : Gle G G') {tok : Tok} {es fl : List AV} {b o cap : Nat} (r : TokR G tok es fl b o cap) : TokR G' tok es fl b o cap := by
  cases tok with
  | non => trivial
  | clip => exact r
  | knil _ => exact r
  | own t pos =>
    obtain ⟨n, sz, hne, hsz, hn, hp, hl, hc⟩ := r
    obtain ⟨n', e', l', t'⟩ := h.fr t n hn
    refine ⟨n', sz, hne, hsz, e', by omega, hl, fun e => ?_⟩
    rw [t' (by omega)]
    exact hc (by omega)

theorem VR.mono {G G' : Gh} (h : Gle G G') {a : AV} {v : Value} (r : VR G a v) : VR G' a v := by
  refine VR.rec (motive_1 := fun a v _ => VR G' a v) (motive_2 := fun l m _ => VRL G' l m) (motive_3 := fun l b o _ => VRI G' l b o)
    ?_ ?_ ?_ ?_ ?_ ?_ ?_ ?_ ?_ ?_ ?_ ?_ ?_ ?_ ?_ ?_ ?_ ?_ ?_ ?_ ?_ ?_ ?_ ?_ r
  · exact fun v => .junk v
  · exact .undef
  · exact fun b => .bool b
  · exact fun k n => .int k n
  · exact fun bs => .str bs
  · exact fun cs vs _ ih => .agg cs vs ih
  · exact fun cs vs _ ih => .tup cs vs ih
  · exact .nilp
  · exact fun cs b o _ ih => .ref cs b o ih
  · exact fun dep d ver off b hb => .loc dep d ver off b (h.nu _ _ _ hb)
  · exact fun id off b hb => .ptr id off b (h.phi _ _ hb)
  · exact fun f first cap fv cv _ _ ih1 ih2 => .fn f first cap fv cv ih1 ih2
  · exact fun t a v _ ih => .iface t a v ih
  · exact .nilif
  · exact fun tok ad ht hq => .nils tok ad ht hq
  · exact fun es tok fl b o cap sz h1 h2 _ h4 h5 ih => .slice es tok fl b o cap sz h1 h2 ih (h4.mono h) h5
  · exact fun id ver off len lim sz b m cap h1 h2 h3 h4 => .sl _ _ _ _ _ _ _ _ _ (h.rv _ _ _ h1) h2 h3 h4
  · exact fun id ver off b m h1 => .rp _ _ _ _ _ (h.rv _ _ _ h1)
  · exact fun id b h1 => .mp _ _ (h.phi _ _ h1)
  · exact .nilm
  · exact .nil
  · exact fun a v l m _ _ ih1 ih2 => .cons a v l m ih1 ih2
  · exact fun b o => .nil b o
  · exact fun a v l b o hI _ _ ih1 ih2 => .cons a v l b o (h.I _ _ _ hI) ih1 ih2
theorem VRL.mono {G G' : Gh} (h : Gle G G') {l : List AV} {m : List Value} (r : VRL G l m) : VRL G' l m := by
  induction l generalizing m with
  | nil => cases r; exact .nil
  | cons a l ih => cases r with | cons _ v _ m ha hl => exact .cons _ _ _ _ (ha.mono h) (ih hl)
theorem VRI.mono {G G' : Gh} (h : Gle G G') {l : List AV} {b o : Nat} (r : VRI G l b o) : VRI G' l b o := by
  induction l generalizing o with
  | nil => exact .nil b o
  | cons a l ih => cases r with | cons _ v _ _ _ hI ha hl => exact .cons _ _ _ _ _ (h.I _ _ _ hI) (ha.mono h) (ih hl)

theorem VRL.length {G : Gh} {l : List AV} {m : List Value} (r : VRL G l m) : m.length = l.length := by
  induction l generalizing m with
  | nil => cases r; rfl
  | cons a l ih => cases r with | cons _ v _ m ha hl => simp [ih hl]
theorem VRL.get {G : Gh} {l : List AV} {m : List Value} (r : VRL G l m) {i : Nat} {a : AV} (h : l[i]? = some a) : ∃ v, m[i]? = some v ∧ VR G a v := by
  induction l generalizing m i with
  | nil => simp at h
  | cons x l ih =>
    cases r with
    | cons _ v _ m ha hl =>
      cases i with
      | zero => simp at h; subst h; exact ⟨v, by simp, ha⟩
      | succ i => simpa using ih hl (by simpa using h)
theorem VRL.append {G : Gh} {l l' : List AV} {m m' : List Value} (r : VRL G l m) (r' : VRL G l' m') : VRL G (l ++ l') (m ++ m') := by
  induction l generalizing m with
  | nil => cases r; exact r'
  | cons a l ih => cases r with | cons _ v _ m ha hl => exact .cons _ _ _ _ ha (ih hl)
theorem VRL.take {G : Gh} {l : List AV} {m : List Value} (r : VRL G l m) (n : Nat) : VRL G (l.take n) (m.take n) := by
  induction l generalizing m n with
  | nil => cases r; simp; exact .nil
  | cons a l ih =>
    cases r with
    | cons _ v _ m ha hl =>
      cases n with
      | zero => simp; exact .nil
      | succ n => simp; exact .cons _ _ _ _ ha (ih hl n)
theorem VRL.drop {G : Gh} {l : List AV} {m : List Value} (r : VRL G l m) (n : Nat) : VRL G (l.drop n) (m.drop n) := by
  induction l generalizing m n with
  | nil => cases r; simp; exact .nil
  | cons a l ih =>
    cases r with
    | cons _ v _ m ha hl =>
      cases n with
      | zero => simp; exact .cons _ _ _ _ ha hl
      | succ n => simpa using ih hl n
theorem VRL.map {G : Gh} {α : Type} {f : α → AV} {g : α → Value} (l : List α) (h : ∀ x ∈ l, VR G (f x) (g x)) : VRL G (l.map f) (l.map g) := by
  induction l with
  | nil => exact .nil
  | cons a l ih => exact .cons _ _ _ _ (h a (by simp)) (ih fun x hx => h x (by simp [hx]))
theorem VRI.append {G : Gh} {l l' : List AV} {b o : Nat} (r : VRI G l b o) (r' : VRI G l' b (o + l.length)) : VRI G (l ++ l') b o := by
  induction l generalizing o with
  | nil => exact r'
  | cons a l ih =>
    cases r with
    | cons _ v _ _ _ hI ha hl => exact .cons _ _ _ _ _ hI ha (ih hl (by simpa [Nat.add_assoc, Nat.add_comm 1] using r'))
theorem VRI.left {G : Gh} {l l' : List AV} {b o : Nat} (r : VRI G (l ++ l') b o) : VRI G l b o := by
  induction l generalizing o with
  | nil => exact .nil b o
  | cons a l ih => cases r with | cons _ v _ _ _ hI ha hl => exact .cons _ _ _ _ _ hI ha (ih hl)
theorem VRI.right {G : Gh} {l l' : List AV} {b o : Nat} (r : VRI G (l ++ l') b o) : VRI G l' b (o + l.length) := by
  induction l generalizing o with
  | nil => exact r
  | cons a l ih => cases r with | cons _ v _ _ _ hI ha hl => simpa [Nat.add_assoc, Nat.add_comm 1] using ih hl
theorem VRI.drop {G : Gh} {l : List AV} {b o : Nat} (r : VRI G l b o) (n : Nat) (hn : n ≤ l.length) : VRI G (l.drop n) b (o + n) := by
  have h : VRI G (l.take n ++ l.drop n) b o := by rwa [List.take_append_drop]
  have := h.right
  rwa [List.length_take, Nat.min_eq_left hn] at this
theorem VRI.drop' {G : Gh} {l : List AV} {b o : Nat} (r : VRI G l b o) (n : Nat) : VRI G (l.drop n) b (o + n) := by
  rcases Nat.lt_or_ge l.length n with h | h
  · rw [List.drop_eq_nil_of_le (by omega)]; exact .nil _ _
  · exact r.drop n h
theorem VRI.take {G : Gh} {l : List AV} {b o : Nat} (r : VRI G l b o) (n : Nat) : VRI G (l.take n) b o := by
  have h : VRI G (l.take n ++ l.drop n) b o := by rwa [List.take_append_drop]
  exact h.left
theorem VRI.get {G : Gh} {l : List AV} {b o : Nat} (r : VRI G l b o) {i : Nat} {a : AV} (h : l[i]? = some a) : ∃ v, G.I b (o + i) = some v ∧ VR G a v := by
  induction l generalizing o i with
  | nil => simp at h
  | cons x l ih =>
    cases r with
    | cons _ v _ _ _ hI ha hl =>
      cases i with
      | zero => simp at h; subst h; exact ⟨v, by simpa using hI, ha⟩
      | succ i => simpa [Nat.add_assoc, Nat.add_comm 1] using ih hl (by simpa using h)
/-- the values in the cells -/
theorem VRI.vals {G : Gh} {l : List AV} {b o : Nat} (r : VRI G l b o) : ∃ vs : List Value, VRL G l vs ∧ ∀ i v, vs[i]? = some v → G.I b (o + i) = some v := by
  induction l generalizing o with
  | nil => exact ⟨[], .nil, by simp⟩
  | cons a l ih =>
    cases r with
    | cons _ v _ _ _ hI ha hl =>
      obtain ⟨vs, h1, h2⟩ := ih hl
      refine ⟨v :: vs, .cons _ _ _ _ ha h1, fun i x hx => ?_⟩
      cases i with
      | zero => simp at hx; subst hx; simpa using hI
      | succ i => have := h2 i x (by simpa using hx); simpa [Nat.add_assoc, Nat.add_comm 1] using this
theorem VRI.of_vals {G : Gh} {l : List AV} {vs : List Value} (r : VRL G l vs) {b o : Nat} (h : ∀ i v, vs[i]? = some v → G.I b (o + i) = some v) : VRI G l b o := by
  induction l generalizing vs o with
  | nil => exact .nil b o
  | cons a l ih =>
    cases r with
    | cons _ v _ m ha hl =>
      refine .cons _ _ _ _ _ (by simpa using h 0 v (by simp)) ha (ih hl fun i x hx => ?_)
      have := h (i + 1) x (by simpa using hx)
      simpa [Nat.add_assoc, Nat.add_comm 1] using this

/-! ### cells -/
def oneV (v : Value) : Bool := match v with | .agg _ => false | .tuple _ => false | _ => true
theorem VR.one {G : Gh} {a : AV} {v : Value} (r : VR G a v) (h : a.isCell = true) : oneV v = true := by
  cases r <;> first | rfl | simp [AV.isCell] at h
theorem VR.cells {G : Gh} {a : AV} {v : Value} (r : VR G a v) {cs : List AV} (h : a.cells? = some cs) : VRL G cs v.cells.toList ∧ (∀ x ∈ v.cells.toList, oneV x = true) ∧ (∀ x ∈ cs, x.isCell = true) := by
  have one : ∀ (a : AV) (v : Value), VR G a v → a.isCell = true → VRL G [a] #[v].toList ∧ (∀ x ∈ #[v].toList, oneV x = true) ∧ (∀ x ∈ [a], x.isCell = true) := fun a v r hc =>
    ⟨.cons _ _ _ _ r .nil, by simp [r.one hc], by simp [hc]⟩
  cases a with
  | agg cs' =>
    simp only [AV.cells?] at h
    split at h
    · rename_i hall
      cases h
      cases r with
      | agg _ vs hl =>
        refine ⟨hl, ?_, by simpa using hall⟩
        show ∀ x ∈ vs.toList, oneV x = true
        intro x hx
        obtain ⟨i, hi⟩ := List.mem_iff_getElem?.1 hx
        have hlen := hl.length
        have hi' : i < cs.length := by
          have := (List.getElem?_eq_some_iff.1 hi).1; omega
        obtain ⟨w, hw, hr⟩ := hl.get (List.getElem?_eq_getElem hi')
        rw [hi] at hw
        cases hw
        exact hr.one ((List.all_eq_true.1 hall) _ (List.getElem_mem hi'))
    · cases h
  | junk => simp [AV.cells?] at h
  | undef => simp [AV.cells?] at h
  | tup cs' => simp [AV.cells?] at h
  | _ => simp only [AV.cells?, Option.some.injEq] at h; subst h; (have hv := one _ v r rfl); cases r <;> exact hv

theorem flatQ_append {a b : List AV} {x y : List AV} (h : flatQ a = some x) (k : flatQ b = some y) : flatQ (a ++ b) = some (x ++ y) := by
  induction a generalizing x with
  | nil => simp [flatQ] at h; subst h; simpa using k
  | cons e es ih =>
    simp only [flatQ] at h
    split at h
    · rename_i cs l hc hl
      cases h
      simp [flatQ, hc, ih hl, List.append_assoc]
    · cases h
theorem flatQ_split {a b : List AV} {z : List AV} (h : flatQ (a ++ b) = some z) : ∃ x y, flatQ a = some x ∧ flatQ b = some y ∧ z = x ++ y := by
  induction a generalizing z with
  | nil => exact ⟨[], z, rfl, h, rfl⟩
  | cons e es ih =>
    simp only [List.cons_append, flatQ] at h
    split at h
    · rename_i cs l hc hl
      cases h
      obtain ⟨x, y, h1, h2, rfl⟩ := ih hl
      exact ⟨cs ++ x, y, by simp [flatQ, hc, h1], h2, by simp⟩
    · cases h
theorem flatQ_len {l : List AV} {fl : List AV} (h : flatQ l = some fl) {sz : Nat} (hs : ∀ e ∈ l, ∀ cs, e.cells? = some cs → cs.length = sz) : fl.length = l.length * sz := by
  induction l generalizing fl with
  | nil => simp [flatQ] at h; subst h; simp
  | cons e es ih =>
    simp only [flatQ] at h
    split at h
    · rename_i cs l hc hl
      cases h
      have := ih hl fun e he => hs e (by simp [he])
      have := hs e (by simp) cs hc
      simp [*, Nat.add_mul]; omega
    · cases h
theorem sizesOk_mem {n : Nat} {l : List AV} : sizesOk n l = true ↔ ∀ e ∈ l, ∃ cs, e.cells? = some cs ∧ cs.length = n := by
  induction l with
  | nil => simp [sizesOk]
  | cons a l ih =>
    simp only [sizesOk, Bool.and_eq_true, ih, List.mem_cons, forall_eq_or_imp]
    cases a.cells? with
    | none => simp
    | some cs => simp
theorem sizesOk_append {n : Nat} {l m : List AV} : sizesOk n (l ++ m) = (sizesOk n l && sizesOk n m) := by
  induction l with
  | nil => simp [sizesOk]
  | cons a l ih => simp [sizesOk, ih, Bool.and_assoc]
theorem flatQ_sizes {n : Nat} {l : List AV} (h : sizesOk n l = true) : ∃ fl, flatQ l = some fl ∧ fl.length = l.length * n := by
  induction l with
  | nil => exact ⟨[], rfl, by simp⟩
  | cons a l ih =>
    obtain ⟨cs, h1, h2⟩ := sizesOk_mem.1 h a (by simp)
    simp only [sizesOk, Bool.and_eq_true] at h
    obtain ⟨fl, h3, h4⟩ := ih h.2
    exact ⟨cs ++ fl, by simp [flatQ, h1, h3], by simp [h2, h4, Nat.add_mul]; omega⟩
theorem flatQ_len' {l fl : List AV} (h : flatQ l = some fl) {n : Nat} (hs : sizesOk n l = true) : fl.length = l.length * n := by
  obtain ⟨x, h1, h2⟩ := flatQ_sizes hs
  rw [h] at h1; cases h1; exact h2
/-- the i-th element's cells, in the row -/
theorem VRI.elem {G : Gh} {l fl : List AV} {n b o i : Nat} {a : AV} {cs : List AV} (h : flatQ l = some fl) (hs : sizesOk n l = true) (hv : VRI G fl b o) (ha : l[i]? = some a) (hc : a.cells? = some cs) : VRI G cs b (o + i * n) := by
  induction l generalizing fl i o with
  | nil => simp at ha
  | cons x l ih =>
    obtain ⟨c, h1, h2⟩ := sizesOk_mem.1 hs x (by simp)
    simp only [sizesOk, Bool.and_eq_true] at hs
    simp only [flatQ, h1] at h
    split at h
    · rename_i c' m e1 e2
      cases e1
      cases h
      cases i with
      | zero => simp at ha; subst ha; rw [h1] at hc; cases hc; simpa using hv.left
      | succ i =>
        have := ih e2 hs.2 hv.right (by simpa using ha)
        rw [h2] at this
        rwa [show o + (i + 1) * n = o + n + i * n by rw [Nat.add_mul]; omega]
    · cases h
theorem flatQ_isCell {l : List AV} {fl : List AV} (h : flatQ l = some fl) : ∀ x ∈ fl, x.isCell = true := by
  induction l generalizing fl with
  | nil => simp [flatQ] at h; subst h; simp
  | cons e es ih =>
    simp only [flatQ] at h
    split at h
    · rename_i cs l hc hl
      cases h
      intro x hx
      rcases List.mem_append.1 hx with hx | hx
      · cases e <;> simp only [AV.cells?] at hc <;> first | (cases hc; simp at hx; subst hx; rfl) | (split at hc <;> simp_all) | cases hc
      · exact ih hl x hx
    · cases h

/-! ### constants -/
theorem ofC0_VR (G : Gh) (v : Value) : VR G (ofC0 v) v := by
  unfold ofC0
  split <;> first | exact .bool _ | exact .int _ _ | exact .str _ | exact .nilp | exact .nils _ _ (by simp) (by simp) | exact .nilif | exact .nilm | exact .junk _
theorem ofC_VR (G : Gh) (v : Value) : VR G (ofC v) v := by
  unfold ofC
  split
  · rename_i cs
    refine .agg _ _ ?_
    have := VRL.map (G := G) (f := ofC0) (g := id) cs.toList fun x _ => ofC0_VR G x
    simpa using this
  · exact ofC0_VR G v
mutual
theorem avEq_spec : ∀ a b : AV, avEq a b = true → a = b
  | .junk, b, h => by cases b <;> simp_all [avEq]
  | .undef, b, h => by cases b <;> simp_all [avEq]
  | .nilp, b, h => by cases b <;> simp_all [avEq]
  | .nilif, b, h => by cases b <;> simp_all [avEq]
  | .bool x, b, h => by cases b <;> simp_all [avEq]
  | .int k x, b, h => by cases b <;> simp_all [avEq]
  | .str x, b, h => by cases b <;> simp_all [avEq]
  | .agg x, b, h => by
    cases b <;> simp only [avEq] at h <;> first | (rw [avEqL_spec x _ h]; done) | cases h
  | .tup x, b, h => by
    cases b <;> simp only [avEq] at h <;> first | (rw [avEqL_spec x _ h]; done) | cases h
  | .ref x, b, h => by
    cases b <;> simp only [avEq] at h <;> first | (rw [avEqL_spec x _ h]; done) | cases h
  | .slice x .non, b, h => by
    cases b with
    | slice y tok => cases tok <;> simp only [avEq] at h <;> first | (rw [avEqL_spec x _ h]; done) | cases h
    | _ => simp [avEq] at h
  | .slice x .clip, b, h => by
    cases b with
    | slice y tok => cases tok <;> simp only [avEq] at h <;> first | (rw [avEqL_spec x _ h]; done) | cases h
    | _ => simp [avEq] at h
  | .slice x (.own t p), b, h => by
    cases b with
    | slice y tok =>
      cases tok <;> simp only [avEq, Bool.and_eq_true, beq_iff_eq] at h <;> first | (obtain ⟨⟨rfl, rfl⟩, h⟩ := h; rw [avEqL_spec x _ h]; done) | cases h
    | _ => simp [avEq] at h
  | .slice x (.knil p), b, h => by
    cases b with
    | slice y tok =>
      cases tok <;> simp only [avEq, Bool.and_eq_true, beq_iff_eq] at h <;> first | (obtain ⟨rfl, h⟩ := h; rw [avEqL_spec x _ h]; done) | cases h
    | _ => simp [avEq] at h
  | .loc .., b, h => by cases b <;> simp_all [avEq]
  | .ptr .., b, h => by cases b <;> simp_all [avEq]
  | .sl .., b, h => by cases b <;> simp_all [avEq]
  | .rp .., b, h => by cases b <;> simp_all [avEq]
  | .mp _, b, h => by cases b <;> simp_all [avEq]
  | .nilm, b, h => by cases b <;> simp_all [avEq]
  | .fn f x y, b, h => by
    cases b <;> simp only [avEq, Bool.and_eq_true, beq_iff_eq] at h <;> first | (obtain ⟨⟨rfl, h1⟩, h2⟩ := h; rw [avEqL_spec x _ h1, avEqL_spec y _ h2]; done) | cases h
  | .iface t x, b, h => by
    cases b <;> simp only [avEq, Bool.and_eq_true, beq_iff_eq] at h <;> first | (obtain ⟨rfl, h1⟩ := h; rw [avEq_spec x _ h1]; done) | cases h
theorem avEqL_spec : ∀ a b : List AV, avEqL a b = true → a = b
  | [], b, h => by cases b <;> simp_all [avEqL]
  | x :: a, b, h => by
    cases b with
    | nil => simp [avEqL] at h
    | cons y b =>
      simp only [avEqL, Bool.and_eq_true] at h
      rw [avEq_spec x y h.1, avEqL_spec a b h.2]
end
theorem boxEqL_spec : ∀ a b : List HBox, boxEqL a b = true → a = b
  | [], b, h => by cases b <;> simp_all [boxEqL]
  | x :: a, b, h => by
    cases b with
    | nil => simp [boxEqL] at h
    | cons y b =>
      simp only [boxEqL, Bool.and_eq_true, beq_iff_eq] at h
      obtain ⟨⟨h1, h2⟩, h3⟩ := h
      rw [boxEqL_spec a b h3]
      obtain ⟨ty, cs⟩ := x
      obtain ⟨ty', cs'⟩ := y
      simp only at h1 h2
      rw [h1, avEqL_spec cs cs' h2]
mutual
theorem avEq_refl : ∀ a : AV, avEq a a = true
  | .junk => rfl | .undef => rfl | .nilp => rfl | .nilif => rfl
  | .bool x => by simp [avEq]
  | .int k x => by simp [avEq]
  | .str x => by simp [avEq]
  | .agg x => by simp only [avEq]; exact avEqL_refl x
  | .tup x => by simp only [avEq]; exact avEqL_refl x
  | .ref x => by simp only [avEq]; exact avEqL_refl x
  | .slice x .non => by simp only [avEq]; exact avEqL_refl x
  | .slice x .clip => by simp only [avEq]; exact avEqL_refl x
  | .slice x (.own t p) => by simp [avEq, avEqL_refl x]
  | .slice x (.knil p) => by simp [avEq, avEqL_refl x]
  | .loc .. => by simp [avEq]
  | .ptr .. => by simp [avEq]
  | .sl .. => by simp [avEq]
  | .rp .. => by simp [avEq]
  | .mp _ => by simp [avEq]
  | .nilm => rfl
  | .fn f x y => by simp [avEq, avEqL_refl x, avEqL_refl y]
  | .iface t x => by simp [avEq, avEq_refl x]
theorem avEqL_refl : ∀ a : List AV, avEqL a a = true
  | [] => rfl
  | x :: a => by simp [avEqL, avEq_refl x, avEqL_refl a]
end
theorem boxEqL_refl : ∀ a : List HBox, boxEqL a a = true
  | [] => rfl
  | x :: a => by simp [boxEqL, avEqL_refl x.cs, boxEqL_refl a]
end Go.Proofs.YtcpoinfdnimanaaGreatDoor.AE
/- What the world holds when a call begins: the cell of errors.errorType. No condition. -/
namespace Go.Proofs.YtcpoinfdnimanaaGreatDoor.AE
open Go Go.RowKit
/-- the one listed package-level variable, a type's handle -/
def GL (w0 : World) (B : Nat) : Prop := 0 < B ∧ w0.cell? ⟨0, 0, none⟩ = some (.iface 179 (.agg #[.pointer (some ⟨2, 46, none⟩)]))
theorem GL_below {w0 w : World} {B : Nat} (h : GL w0 B) (hb : Below B w0 w) : w.cell? ⟨0, 0, none⟩ = some (.iface 179 (.agg #[.pointer (some ⟨2, 46, none⟩)])) := by
  rw [← h.2]
  exact World.cell?_of_block (hb.block 0 h.1)
end Go.Proofs.YtcpoinfdnimanaaGreatDoor.AE
/- What holds of the world beside an evaluation, and how memory is read, written and made under it. No condition. -/
namespace Go.Proofs.YtcpoinfdnimanaaGreatDoor.AE
set_option linter.unusedVariables false
set_option linter.unusedSimpArgs false
open Go Go.RowKit

/-- a map's entries -/
inductive EntR (G : Gh) : List AV → List MapEntry → Prop where
  | nil : EntR G [] []
  | cons (k v : AV) (e : MapEntry) (l : List AV) (m : List MapEntry) : VR G k e.key → VR G v e.val → k.sealed = true → (∃ cs, v.cells? = some cs ∧ AV.sealedL cs = true) → EntR G l m → EntR G (.tup [k, v] :: l) (e :: m)
theorem EntR.mono {G G' : Gh} (h : Gle G G') {l : List AV} {m : List MapEntry} (r : EntR G l m) : EntR G' l m := by
  induction r with
  | nil => exact .nil
  | cons k v e l m h1 h2 h3 h4 _ ih => exact .cons k v e l m (h1.mono h) (h2.mono h) h3 h4 ih
/-- which blocks are rows', or maps' -/
def Spec (G : Gh) (S : St) (b : Nat) : Prop := (∃ i v m, G.rv i v = some (b, m)) ∨ ∃ i bx, S.H[i]? = some bx ∧ mapT ≤ bx.ty ∧ G.phi i = some b
/-- what holds of rows and maps -/
structure InvX (B : Nat) (G : Gh) (S : St) (w : World) : Prop where
  row : ∀ i bx, S.H[i]? = some bx → rowT ≤ bx.ty → bx.ty < mapT → ∃ (ver : Nat) (cells : List AV) (b : Nat) (vs : Array Value), bx.cs = .int .i64 ver :: cells ∧ G.rv i ver = some (b, vs.size) ∧ w.heap[b]? = some (.cells vs (bx.ty - rowT) (0, 0)) ∧
    VRL G cells (vs.toList.take cells.length) ∧ cells.length ≤ vs.size ∧ (∀ x ∈ vs.toList, oneV x = true) ∧ (∀ x ∈ cells, x.isCell = true) ∧ AV.sealedL cells = true ∧ (∀ v' x, G.rv i v' = some x → v' ≤ ver)
  mp : ∀ i bx, S.H[i]? = some bx → mapT ≤ bx.ty → ∃ b es clock, G.phi i = some b ∧ B ≤ b ∧ w.heap[b]? = some (.map es clock) ∧ EntR G bx.cs es.toList ∧ (∀ o, G.I b o = none)
  rvd : ∀ i v x, G.rv i v = some x → i < S.H.length
  rvb : ∀ i v x, G.rv i v = some x → B ≤ x.1 ∧ x.1 < w.heap.size
  rvj : ∀ i j v u b m m', G.rv i v = some (b, m) → G.rv j u = some (b, m') → i = j
  rvp : ∀ i v b m j, G.rv i v = some (b, m) → G.phi j ≠ some b
  rvt : ∀ i v b m t m', G.rv i v = some (b, m) → G.tau t ≠ some (b, m')
  rvI : ∀ i v b m o, G.rv i v = some (b, m) → G.I b o = none
  mpt : ∀ t b m, G.tau t = some (b, m) → ∀ i bx, S.H[i]? = some bx → mapT ≤ bx.ty → G.phi i ≠ some b

structure Inv (w0 : World) (B : Nat) (G : Gh) (S : St) (w : World) : Prop where
  gl : GL w0 B
  below : Below B w0 w
  base : B ≤ w.heap.size
  imm : ∀ b o v, G.I b o = some v → w.cell? ⟨b, o, none⟩ = some v
  fr : ∀ t, G.fr t = S.T[t]?
  box : ∀ i bx, S.H[i]? = some bx → bx.ty < rowT → ∃ b vs, G.phi i = some b ∧ B ≤ b ∧ w.heap[b]? = some (.cells vs bx.ty (0, 0)) ∧ VRL G bx.cs vs.toList ∧ (∀ o, G.I b o = none) ∧
    (∀ x ∈ vs.toList, oneV x = true) ∧ (∀ x ∈ bx.cs, x.isCell = true) ∧ AV.sealedL bx.cs = true
  phid : ∀ i b, G.phi i = some b → i < S.H.length
  phij : ∀ i j b, G.phi i = some b → G.phi j = some b → i = j
  tok : ∀ t n, S.T[t]? = some n → ∃ b m vs ty fz, G.tau t = some (b, m) ∧ B ≤ b ∧ w.heap[b]? = some (.cells vs ty fz) ∧ m ≤ vs.size ∧ (∀ o, n ≤ o → G.I b o = none) ∧
    (∀ o, o < m → w.frozen? ⟨b, o, none⟩ = false) ∧ (∀ i, G.phi i ≠ some b)
  taud : ∀ t x, G.tau t = some x → t < S.T.length
  tauj : ∀ t u b m m', G.tau t = some (b, m) → G.tau u = some (b, m') → t = u
  phil : ∀ i b, G.phi i = some b → B ≤ b ∧ b < w.heap.size
  tel : ∀ i bx, S.H[i]? = some bx → rowT ≤ bx.ty → bx.ty < mapT → G.phi i = none
  ex : InvX B G S w

structure LInv (B : Nat) (G : Gh) (w : World) (dep : Nat) (b : Nat → Nat × List AV) : Prop where
  box : ∀ d, (b d).1 ≠ 0 → ∃ k vs ty, G.nu dep (b d).1 = some k ∧ B ≤ k ∧ w.heap[k]? = some (.cells vs ty (0, 0)) ∧ VRL G (b d).2 vs.toList ∧ (∀ o, G.I k o = none) ∧
    (∀ x ∈ vs.toList, oneV x = true) ∧ (∀ x ∈ (b d).2, x.isCell = true) ∧ (∀ i, G.phi i ≠ some k) ∧ (∀ t m, G.tau t ≠ some (k, m)) ∧ (∀ i v m, G.rv i v ≠ some (k, m))
  inj : ∀ d e k, (b d).1 ≠ 0 → (b e).1 ≠ 0 → G.nu dep (b d).1 = some k → G.nu dep (b e).1 = some k → d = e

/-- from (G, w) on: what was known is known, what was not to be written stands -/
structure Ext (G : Gh) (w : World) (G' : Gh) (w' : World) : Prop where
  le : Gle G G'
  size : w.heap.size ≤ w'.heap.size
  phi : ∀ i b, G'.phi i = some b → G.phi i = some b ∨ w.heap.size ≤ b
  tau : ∀ t x, G'.tau t = some x → G.tau t = some x ∨ w.heap.size ≤ x.1
  I : ∀ b o v, G'.I b o = some v → G.I b o = some v ∨ w.heap.size ≤ b ∨ ∃ t m n, G.tau t = some (b, m) ∧ G.fr t = some n ∧ n ≤ o
  keep : ∀ b, b < w.heap.size → (∀ i, G.phi i ≠ some b) → (∀ t m, G.tau t ≠ some (b, m)) → (∀ i v m, G.rv i v ≠ some (b, m)) → w'.heap[b]? = w.heap[b]?
  rv : ∀ i v b m, G'.rv i v = some (b, m) → (∃ v' m', G.rv i v' = some (b, m')) ∨ w.heap.size ≤ b

theorem Ext.refl (G : Gh) (w : World) : Ext G w G w := ⟨.refl G, Nat.le_refl _, fun _ _ h => .inl h, fun _ _ h => .inl h, fun _ _ _ h => .inl h, fun _ _ _ _ _ => rfl, fun i v b m h => .inl ⟨v, m, h⟩⟩
theorem Ext.trans {w0 : World} {B : Nat} {S : St} {G G1 G2 : Gh} {w w1 w2 : World} (hi : Inv w0 B G S w) (h : Ext G w G1 w1) (k : Ext G1 w1 G2 w2) : Ext G w G2 w2 where
  le := h.le.trans k.le
  size := Nat.le_trans h.size k.size
  phi i b e := by
    rcases k.phi i b e with e | e
    · exact h.phi i b e
    · exact .inr (Nat.le_trans h.size e)
  tau t x e := by
    rcases k.tau t x e with e | e
    · exact h.tau t x e
    · exact .inr (Nat.le_trans h.size e)
  I b o v e := by
    rcases k.I b o v e with e | e | ⟨t, m, n, e1, e2, e3⟩
    · exact h.I b o v e
    · exact .inr (.inl (Nat.le_trans h.size e))
    · rcases h.tau t _ e1 with e4 | e4
      · have ht := hi.taud t _ e4
        have hf : G.fr t = some (S.T[t]) := by rw [hi.fr]; simp [ht]
        obtain ⟨n', e5, e6, _⟩ := h.le.fr t _ hf
        rw [e2] at e5
        cases e5
        exact .inr (.inr ⟨t, m, _, e4, hf, by omega⟩)
      · exact .inr (.inl e4)
  rv i v b m e := by
    rcases k.rv i v b m e with ⟨v', m', e⟩ | e
    · exact h.rv i v' b m' e
    · exact .inr (Nat.le_trans h.size e)
  keep b hb h1 h2 h3 := by
    have e := h.keep b hb h1 h2 h3
    rw [← e]
    refine k.keep b (Nat.lt_of_lt_of_le hb h.size) (fun i e => ?_) (fun t m e => ?_) (fun i v m e => ?_)
    · rcases h.phi i b e with e | e
      · exact h1 i e
      · omega
    · rcases h.tau t _ e with e | e
      · exact h2 t m e
      · simp at e; omega
    · rcases h.rv i v b m e with ⟨v', m', e⟩ | e
      · exact h3 i v' m' e
      · omega

/-- rows and maps stay, where nothing of theirs turns -/
theorem InvX.stay {B : Nat} {G G' : Gh} {S S' : St} {w w' : World} (hx : InvX B G S w) (le : Gle G G') (erv : G'.rv = G.rv)
    (hH : ∀ (i : Nat) (bx : HBox), rowT ≤ bx.ty → S'.H[i]? = some bx → S.H[i]? = some bx) (hl : S.H.length ≤ S'.H.length) (hz : w.heap.size ≤ w'.heap.size)
    (hw : ∀ b, Spec G S b → w'.heap[b]? = w.heap[b]?) (hI : ∀ b, Spec G S b → ∀ o, G'.I b o = none)
    (hphi : ∀ i b, G'.phi i = some b → G.phi i = some b ∨ w.heap.size ≤ b) (htau : ∀ t x, G'.tau t = some x → G.tau t = some x ∨ w.heap.size ≤ x.1) : InvX B G' S' w' where
  row i bx hb h1 h2 := by
    obtain ⟨ver, cells, b, vs, k1, k2, k3, k4, k5, k6, k7, k8, k9⟩ := hx.row i bx (hH i bx h1 hb) h1 h2
    exact ⟨ver, cells, b, vs, k1, by rw [erv]; exact k2, by rw [hw b (.inl ⟨i, ver, _, k2⟩)]; exact k3, k4.mono le, k5, k6, k7, k8, by rw [erv]; exact k9⟩
  mp i bx hb h1 := by
    have hb' := hH i bx (Nat.le_trans (show rowT ≤ mapT by decide) h1) hb
    obtain ⟨b, es, clock, k1, k2, k3, k4, k5⟩ := hx.mp i bx hb' h1
    have sp : Spec G S b := .inr ⟨i, bx, hb', h1, k1⟩
    exact ⟨b, es, clock, le.phi _ _ k1, k2, by rw [hw b sp]; exact k3, k4.mono le, hI b sp⟩
  rvd i v x h := by rw [erv] at h; exact Nat.lt_of_lt_of_le (hx.rvd i v x h) hl
  rvb i v x h := by rw [erv] at h; exact ⟨(hx.rvb i v x h).1, Nat.lt_of_lt_of_le (hx.rvb i v x h).2 hz⟩
  rvj i j v u b m m' h k := by rw [erv] at h k; exact hx.rvj i j v u b m m' h k
  rvp i v b m j h k := by
    rw [erv] at h
    rcases hphi j b k with k | k
    · exact hx.rvp i v b m j h k
    · have := (hx.rvb i v _ h).2; simp at this; omega
  rvt i v b m t m' h k := by
    rw [erv] at h
    rcases htau t _ k with k | k
    · exact hx.rvt i v b m t m' h k
    · have := (hx.rvb i v _ h).2; simp at this k; omega
  rvI i v b m o h := by rw [erv] at h; exact hI b (.inl ⟨i, v, m, h⟩) o
  mpt t b m h i bx hb h1 k := by
    have hb' := hH i bx (Nat.le_trans (show rowT ≤ mapT by decide) h1) hb
    obtain ⟨b', es, clock, k1, k2, k3, k4, k5⟩ := hx.mp i bx hb' h1
    have e := le.phi _ _ k1
    rw [k] at e
    cases e
    have hlt : b < w.heap.size := by
      rcases Nat.lt_or_ge b w.heap.size with h' | h'
      · exact h'
      · simp [Array.getElem?_eq_none h'] at k3
    rcases htau t _ h with h | h
    · exact hx.mpt t b m h i bx hb' h1 k1
    · simp at h; omega

theorem LInv.ext {B : Nat} {G G' : Gh} {w w' : World} {dep : Nat} {b : Nat → Nat × List AV} (h : LInv B G w dep b) (e : Ext G w G' w') : LInv B G' w' dep b where
  box d hd := by
    obtain ⟨k, vs, ty, h1, h2, h3, h4, h5, h6, h7, h8, h9, h10⟩ := h.box d hd
    have hk : k < w.heap.size := by
      rcases Nat.lt_or_ge k w.heap.size with h' | h'
      · exact h'
      · simp [Array.getElem?_eq_none h'] at h3
    refine ⟨k, vs, ty, e.le.nu _ _ _ h1, h2, by rw [e.keep k hk h8 h9 h10]; exact h3, h4.mono e.le, fun o => ?_, h6, h7, fun i hi => ?_, fun t m hm => ?_, fun i v m hm => ?_⟩
    · cases hI : G'.I k o with
      | none => rfl
      | some v =>
        rcases e.I k o v hI with h' | h' | ⟨t, m, n, h', _, _⟩
        · rw [h5 o] at h'; cases h'
        · omega
        · exact absurd h' (h9 t m)
    · rcases e.phi i k hi with h' | h'
      · exact h8 i h'
      · omega
    · rcases e.tau t _ hm with h' | h'
      · exact h9 t m h'
      · simp at h'; omega
    · rcases e.rv i v k m hm with ⟨v', m', h'⟩ | h'
      · exact h10 i v' m' h'
      · omega
  inj d f k hd hf e1 e2 := by
    obtain ⟨k1, _, _, h1, _⟩ := h.box d hd
    obtain ⟨k2, _, _, h2, _⟩ := h.box f hf
    have a1 := e.le.nu _ _ _ h1
    have a2 := e.le.nu _ _ _ h2
    rw [e1] at a1; cases a1
    rw [e2] at a2; cases a2
    exact h.inj d f k hd hf h1 h2

/-! ### the world -/
theorem lt_of_heap {w : World} {k : Nat} {o : Obj} (h : w.heap[k]? = some o) : k < w.heap.size := by
  rcases Nat.lt_or_ge k w.heap.size with h' | h'
  · exact h'
  · simp [Array.getElem?_eq_none h'] at h
theorem cell_of_heap {w : World} {k o : Nat} {vs : Array Value} {ty : TypeId} {fz : Nat × Nat} (h : w.heap[k]? = some (.cells vs ty fz)) : w.cell? ⟨k, o, none⟩ = vs[o]? := by
  simp [World.cell?, h]
theorem frozen_of_heap {w : World} {k o : Nat} {vs : Array Value} {ty : TypeId} (h : w.heap[k]? = some (.cells vs ty (0, 0))) : w.frozen? ⟨k, o, none⟩ = false := by
  simp [World.frozen?, h]
theorem add_none (b o n : Nat) : (⟨b, o, none⟩ : Addr).add n = ⟨b, o + n, none⟩ := by
  unfold Addr.add
  split
  · rename_i h; subst h; rfl
  · rfl

theorem run_loadCells_at (P : Program) (w : World) (b o : Nat) (vs : List Value) (h : ∀ j v, vs[j]? = some v → w.cell? ⟨b, o + j, none⟩ = some v) :
    (loadCells ⟨b, o, none⟩ vs.length).run P w = .ok vs.toArray w :=
  run_loadCells_list w _ vs fun j v hj => by rw [add_none]; exact h j v hj
theorem run_underlying' (P : Program) (w : World) (t : TypeId) (d : TypeDesc) (h : P.underlying t = some d) : (underlying t).run P w = .ok d w := by
  simp [underlying, h]
theorem run_isAgg' (P : Program) (w : World) (t : TypeId) (h : (P.underlying t).isSome) : (isAgg t).run P w = .ok (aggQ P t) w := by
  obtain ⟨d, hd⟩ := Option.isSome_iff_exists.1 h
  unfold isAgg
  simp only [Sem.run_bind, run_underlying' P w t d hd, Result.andThen_ok, aggQ, hd]
  cases d <;> rfl
theorem info_of_underlying {P : Program} {t : TypeId} (h : (P.underlying t).isSome) : ∃ i, P.info? t = some i := by
  unfold Program.underlying at h
  cases hi : P.info? t with
  | none => simp [hi] at h
  | some i => exact ⟨i, rfl⟩
theorem run_sizeOf' (P : Program) (w : World) (t : TypeId) (i : TypeInfo) (h : P.info? t = some i) : (sizeOf t).run P w = .ok (P.cellsOf t) w := by
  simp [sizeOf, typeInfo, h, Program.cellsOf]

/-- cells of the world that stand for these -/
def Cells (G : Gh) (w : World) (cs : List AV) (b o : Nat) : Prop := ∃ vs, VRL G cs vs ∧ ∀ j v, vs[j]? = some v → w.cell? ⟨b, o + j, none⟩ = some v

theorem Cells.of_imm {w0 : World} {B : Nat} {G : Gh} {S : St} {w : World} (hi : Inv w0 B G S w) {cs : List AV} {b o : Nat} (h : VRI G cs b o) : Cells G w cs b o := by
  obtain ⟨vs, h1, h2⟩ := h.vals
  exact ⟨vs, h1, fun j v hj => hi.imm _ _ _ (h2 j v hj)⟩
theorem Cells.of_heap {G : Gh} {w : World} {k : Nat} {vs : Array Value} {ty : TypeId} {fz : Nat × Nat} (h : w.heap[k]? = some (.cells vs ty fz)) {cs : List AV} (hr : VRL G cs vs.toList) (off : Nat) :
    Cells G w (cs.drop off) k off :=
  ⟨vs.toList.drop off, hr.drop off, fun j v hj => by rw [cell_of_heap h]; simpa using hj⟩

theorem rdc_load {P : Program} {G : Gh} {w : World} {t : TypeId} {cs : List AV} {b o : Nat} {r : AV} (hu : (P.underlying t).isSome) (h : Cells G w cs b o)
    (hr : rdc (aggQ P t) (P.cellsOf t) cs = some r) : ∃ v, (loadVar t ⟨b, o, none⟩).run P w = .ok v w ∧ VR G r v := by
  obtain ⟨vs, h1, h2⟩ := h
  obtain ⟨i, hi⟩ := info_of_underlying hu
  unfold rdc at hr
  unfold loadVar
  simp only [Sem.run_bind, run_isAgg' P w t hu, Result.andThen_ok]
  cases ha : aggQ P t with
  | true =>
    simp only [ha, if_true] at hr
    split at hr
    · rename_i hle
      cases hr
      have hlen := h1.length
      have hl : (vs.take (P.cellsOf t)).length = P.cellsOf t := by simp; omega
      have := run_loadCells_at P w b o (vs.take (P.cellsOf t)) fun j v hj => by
        rw [List.getElem?_take] at hj
        split at hj
        · exact h2 j v hj
        · cases hj
      rw [hl] at this
      simp only [if_true, Sem.run_bind, run_sizeOf' P w t i hi, Result.andThen_ok, this, Sem.run_pure]
      exact ⟨_, rfl, .agg _ _ (by simpa using h1.take _)⟩
    · cases hr
  | false =>
    simp only [ha, Bool.false_eq_true, if_false] at hr
    cases cs with
    | nil => cases hr
    | cons c cs =>
      simp at hr
      subst hr
      cases h1 with
      | cons _ v _ m hv _ =>
        have := h2 0 v (by simp)
        simp only [Nat.add_zero] at this
        simp only [Bool.false_eq_true, if_false, run_load, this]
        exact ⟨v, rfl, hv⟩

/-! ### stores -/
theorem oneV_oneCell (v : Value) : oneV v = v.oneCell' := by cases v <;> rfl
theorem run_store_at (P : Program) (w : World) (b o : Nat) (v : Value) (hv : oneV v = true) {u : Value} (hc : w.cell? ⟨b, o, none⟩ = some u) (hf : w.frozen? ⟨b, o, none⟩ = false) :
    (store ⟨b, o, none⟩ v).run P w = .ok () (w.setCell ⟨b, o, none⟩ v) := by
  rw [run_store P w _ v .plain (by rw [← oneV_oneCell]; exact hv)]
  simp [hc, hf]
/-- the cells from o on, one by one -/
def setL (b : Nat) : Nat → List Value → World → World
  | _, [], w => w
  | o, v :: l, w => setL b (o + 1) l (w.setCell ⟨b, o, none⟩ v)
theorem run_storeCells_at (P : Program) (b o : Nat) : ∀ (vs : List Value) (i : Nat) (w : World), (∀ x ∈ vs, oneV x = true) → (∀ j, j < vs.length → (w.cell? ⟨b, o + i + j, none⟩).isSome = true) →
    (∀ j, j < vs.length → w.frozen? ⟨b, o + i + j, none⟩ = false) → (storeCells ⟨b, o, none⟩ vs i).run P w = .ok () (setL b (o + i) vs w)
  | [], i, w, _, _, _ => rfl
  | v :: l, i, w, h1, h2, h3 => by
    obtain ⟨u, hu⟩ := Option.isSome_iff_exists.1 (h2 0 (by simp))
    simp only [storeCells, Sem.run_bind, add_none, setL]
    rw [run_store_at P w b (o + i) v (h1 v (by simp)) hu (h3 0 (by simp))]
    simp only [Result.andThen_ok]
    have := run_storeCells_at P b o l (i + 1) (w.setCell ⟨b, o + i, none⟩ v) (fun x hx => h1 x (by simp [hx])) (fun j hj => ?_) (fun j hj => ?_)
    · rw [show o + (i + 1) = o + i + 1 by omega] at this; exact this
    · have := h2 (j + 1) (by simp; omega)
      rw [World.cell?_setCell_other w _ _ _ (by simp; omega)]
      rwa [show o + i + (j + 1) = o + (i + 1) + j by omega] at this
    · rw [World.frozen?_setCell]
      have := h3 (j + 1) (by simp; omega)
      rwa [show o + i + (j + 1) = o + (i + 1) + j by omega] at this
theorem setL_heap_other {b : Nat} : ∀ (vs : List Value) (o : Nat) (w : World) (k : Nat), k ≠ b → (setL b o vs w).heap[k]? = w.heap[k]?
  | [], _, _, _, _ => rfl
  | v :: l, o, w, k, h => by
    rw [setL, setL_heap_other l (o + 1) _ k h]
    exact Below.heap_setCell _ _ _ _ h
theorem setL_size {b : Nat} : ∀ (vs : List Value) (o : Nat) (w : World), (setL b o vs w).heap.size = w.heap.size
  | [], _, _ => rfl
  | v :: l, o, w => by rw [setL, setL_size l]; simp
theorem heap_setCell_same {w : World} {b o : Nat} {v : Value} {vs : Array Value} {ty : TypeId} {fz : Nat × Nat} (h : w.heap[b]? = some (.cells vs ty fz)) :
    (w.setCell ⟨b, o, none⟩ v).heap[b]? = some (.cells (vs.setIfInBounds o v) ty fz) := by
  simp [World.setCell, Array.getElem?_modify, h]
/-- a row with some of its cells anew -/
def putL : Nat → List Value → Array Value → Array Value
  | _, [], vs => vs
  | o, v :: l, vs => putL (o + 1) l (vs.setIfInBounds o v)
theorem setL_heap_same {b : Nat} : ∀ (l : List Value) (o : Nat) (w : World) (vs : Array Value) (ty : TypeId) (fz : Nat × Nat), w.heap[b]? = some (.cells vs ty fz) →
    (setL b o l w).heap[b]? = some (.cells (putL o l vs) ty fz)
  | [], _, _, _, _, _, h => h
  | v :: l, o, w, vs, ty, fz, h => by
    rw [setL, putL]
    exact setL_heap_same l (o + 1) _ _ ty fz (heap_setCell_same h)
theorem setL_below {b B : Nat} {w0 : World} (hb : B ≤ b) : ∀ (l : List Value) (o : Nat) (w : World), Below B w0 w → Below B w0 (setL b o l w)
  | [], _, _, h => h
  | v :: l, o, w, h => setL_below hb l (o + 1) _ (h.setCell (p := ⟨b, o, none⟩) hb v)
theorem putL_toList : ∀ (l : List Value) (o : Nat) (vs : Array Value), o + l.length ≤ vs.size → (putL o l vs).toList = vs.toList.take o ++ (l ++ vs.toList.drop (o + l.length))
  | [], o, vs, h => by simp [putL]
  | v :: l, o, vs, h => by
    have hl : o + 1 + l.length ≤ (vs.setIfInBounds o v).size := by simp; simp at h; omega
    rw [putL, putL_toList l (o + 1) _ hl]
    simp only [List.length_cons] at h ⊢
    simp only [Array.toList_setIfInBounds]
    apply List.ext_getElem?
    intro j
    have hvl : vs.toList.length = vs.size := by simp
    simp only [List.getElem?_append, List.length_take, List.length_set, List.getElem?_take, List.getElem?_set, List.getElem?_drop, List.getElem?_cons, hvl]
    grind
theorem putL_size : ∀ (l : List Value) (o : Nat) (vs : Array Value), (putL o l vs).size = vs.size
  | [], _, _ => rfl
  | v :: l, o, vs => by rw [putL, putL_size l]; simp
end Go.Proofs.YtcpoinfdnimanaaGreatDoor.AE
/- Memory operations of the evaluator are those of the model. No condition. -/
namespace Go.Proofs.YtcpoinfdnimanaaGreatDoor.AE
set_option linter.unusedVariables false
set_option linter.unusedSimpArgs false
open Go Go.RowKit

theorem Below.base_mono {B : Nat} {w0 w w' : World} (h : Below B w0 w) (hs : w.heap.size ≤ w'.heap.size) (hk : ∀ b, b < B → w'.heap[b]? = w.heap[b]?) (ho : w'.os = w.os) (ht : w'.tape = w.tape) (hp : w'.output = w.output) :
    Below B w0 w' := h.trans ⟨ho, ht, hp, hs, hk⟩

theorem Spec.lt {w0 : World} {B : Nat} {G : Gh} {S : St} {w : World} (hi : Inv w0 B G S w) {b : Nat} (h : Spec G S b) : b < w.heap.size := by
  rcases h with ⟨i, v, m, h⟩ | ⟨i, bx, _, _, h⟩
  · exact (hi.ex.rvb i v _ h).2
  · exact (hi.phil i b h).2
theorem Spec.I {w0 : World} {B : Nat} {G : Gh} {S : St} {w : World} (hi : Inv w0 B G S w) {b : Nat} (h : Spec G S b) (o : Nat) : G.I b o = none := by
  rcases h with ⟨i, v, m, h⟩ | ⟨i, bx, h1, h2, h⟩
  · exact hi.ex.rvI i v b m o h
  · obtain ⟨b', _, _, k1, _, _, _, k5⟩ := hi.ex.mp i bx h1 h2
    rw [h] at k1; cases k1; exact k5 o
theorem Spec.tau {w0 : World} {B : Nat} {G : Gh} {S : St} {w : World} (hi : Inv w0 B G S w) {b : Nat} (h : Spec G S b) (t m : Nat) : G.tau t ≠ some (b, m) := fun k => by
  rcases h with ⟨i, v, m', h⟩ | ⟨i, bx, h1, h2, h⟩
  · exact hi.ex.rvt i v b m' t m h k
  · exact hi.ex.mpt t b m k i bx h1 h2 h
/-- Blocks of X may turn; nothing that is known of lies there. -/
theorem Inv.frame {w0 : World} {B : Nat} {G G' : Gh} {S : St} {w w' : World} (hi : Inv w0 B G S w) (X : Nat → Prop)
    (hX : ∀ b, X b → (∀ i, G.phi i ≠ some b) ∧ (∀ t m, G.tau t ≠ some (b, m)) ∧ (∀ o, G.I b o = none) ∧ ∀ i v m, G.rv i v ≠ some (b, m))
    (hs : ∀ b, b < w.heap.size → ¬ X b → w'.heap[b]? = w.heap[b]?) (hz : w.heap.size ≤ w'.heap.size) (hb : Below B w0 w')
    (e1 : G'.I = G.I) (e2 : G'.phi = G.phi) (e3 : G'.tau = G.tau) (e4 : G'.fr = G.fr) (e5 : ∀ d v b, G.nu d v = some b → G'.nu d v = some b) (e6 : G'.rv = G.rv := by rfl) : Inv w0 B G' S w' := by
  have le : Gle G G' := ⟨fun b o v h => by rw [e1]; exact h, fun i b h => by rw [e2]; exact h, e5, fun t n h => ⟨n, by rw [e4]; exact h, Nat.le_refl _, fun _ => by rw [e3]⟩, fun i v x h => by rw [e6]; exact h⟩
  have hk : ∀ b o, b < w.heap.size → w'.heap[b]? = o → True := fun _ _ _ _ => trivial
  refine ⟨hi.gl, hb, Nat.le_trans hi.base hz, fun b o v h => ?_, fun t => by rw [e4]; exact hi.fr t, fun i bx h hty => ?_, fun i b h => ?_, fun i j b h1 h2 => ?_, fun t n h => ?_, fun t x h => ?_, fun t u b m m' h1 h2 => ?_, fun i b h => ?_, fun i bx h h1 h2 => ?_, ?_⟩
  · rw [e1] at h
    have hc := hi.imm b o v h
    have hlt := World.block_lt_of_cell? w _ hc
    have hx : ¬ X b := fun hx => by rw [(hX b hx).2.2.1 o] at h; cases h
    rw [World.cell?_of_block (w := w) (w' := w') (hs b hlt hx)]
    exact hc
  · obtain ⟨b, vs, h1, h2, h3, h4, h5, h6, h7, h8⟩ := hi.box i bx h hty
    refine ⟨b, vs, by rw [e2]; exact h1, h2, ?_, h4.mono le, fun o => by rw [e1]; exact h5 o, h6, h7, h8⟩
    rw [hs b (lt_of_heap h3) fun hx => (hX b hx).1 i h1]
    exact h3
  · rw [e2] at h; exact hi.phid i b h
  · rw [e2] at h1 h2; exact hi.phij i j b h1 h2
  · obtain ⟨b, m, vs, ty, fz, h1, h2, h3, h4, h5, h6, h7⟩ := hi.tok t n h
    have hb' := hs b (lt_of_heap h3) fun hx => (hX b hx).2.1 t m h1
    refine ⟨b, m, vs, ty, fz, by rw [e3]; exact h1, h2, by rw [hb']; exact h3, h4, fun o ho => by rw [e1]; exact h5 o ho, fun o ho => ?_, fun i => by rw [e2]; exact h7 i⟩
    rw [World.frozen?_of_block (w := w) (w' := w') hb']
    exact h6 o ho
  · rw [e3] at h; exact hi.taud t x h
  · rw [e3] at h1 h2; exact hi.tauj t u b m m' h1 h2
  · rw [e2] at h; have := hi.phil i b h; omega
  · rw [e2]; exact hi.tel i bx h h1 h2
  · refine hi.ex.stay le e6 (fun i bx _ h => h) (Nat.le_refl _) hz (fun b hb => hs b (hb.lt hi) fun hx => ?_) (fun b hb o => by rw [e1]; exact hb.I hi o) (fun i b h => .inl (by rw [← e2]; exact h)) (fun t x h => .inl (by rw [← e3]; exact h))
    rcases hb with ⟨i, v, m, h⟩ | ⟨i, bx, _, _, h⟩
    · exact (hX b hx).2.2.2 i v m h
    · exact (hX b hx).1 i h

/-- what does not turn within a frame: the call's beginning, the frame's own -/
structure Fix where
  w0 : World
  B : Nat
  Ge : Gh
  we : World
  Se : St
  cx : Ctx
  ie : Inv w0 B Ge Se we
  /-- what has been deferred -/
  dl : List Deferred := []
  /-- the ghost at some point on the way -/
  Gm : Gh := Ge

structure Pre (F : Fix) (fs : FS) (G : Gh) (w : World) : Prop where
  inv : Inv F.w0 F.B G fs.S w
  ext : Ext F.Ge F.we G w
  loc : LInv F.we.heap.size G w F.cx.dep fs.b

structure Post (F : Fix) (c i : Nat) (G : Gh) (b' : Nat → Nat × List AV) (S' : St) (v : AV) (G' : Gh) (w' : World) (v' : Value) : Prop where
  vr : VR G' v v'
  inv : Inv F.w0 F.B G' S' w'
  le : Gle G G'
  ext : Ext F.Ge F.we G' w'
  loc : LInv F.we.heap.size G' w' F.cx.dep b'
  nu : ∀ d x, G'.nu d x ≠ G.nu d x → d = F.cx.dep ∧ x = c + i + 1

theorem Post.same {F : Fix} {c i : Nat} {G : Gh} {w : World} {fs : FS} {v : AV} {v' : Value} (hp : Pre F fs G w) (h : VR G v v') :
    Post F c i G fs.b fs.S v G w v' := ⟨h, hp.inv, .refl G, hp.ext, hp.loc, fun _ _ h => absurd rfl h⟩
theorem Ext.other {Ge G : Gh} {we w w' : World} (h : Ext Ge we G w) (hz : w.heap.size ≤ w'.heap.size) (hs : ∀ b, b < we.heap.size → (∀ i, Ge.phi i ≠ some b) → (∀ t m, Ge.tau t ≠ some (b, m)) → (∀ i v m, Ge.rv i v ≠ some (b, m)) → w'.heap[b]? = w.heap[b]?) : Ext Ge we G w' :=
  ⟨h.le, Nat.le_trans h.size hz, h.phi, h.tau, h.I, fun b hb h1 h2 h3 => (hs b hb h1 h2 h3).trans (h.keep b hb h1 h2 h3), h.rv⟩

theorem heap_alloc_lt (w : World) (o : Obj) {b : Nat} (h : b < w.heap.size) : (w.alloc o).heap[b]? = w.heap[b]? := Below.heap_alloc w o b h
theorem heap_alloc_at (w : World) (o : Obj) : (w.alloc o).heap[w.heap.size]? = some o := by
  show (w.heap.push o)[w.heap.size]? = some o
  simp
theorem below_alloc' {B : Nat} {w0 w : World} (h : Below B w0 w) (hb : B ≤ w.heap.size) (o : Obj) : Below B w0 (w.alloc o) := h.alloc hb o

/-- a new local box -/
theorem box_local {F : Fix} {i d : Nat} {G : Gh} {w : World} {fs : FS} {ty : TypeId} {cs : List AV} {vs : Array Value}
    (hp : Pre F fs G w) (hn : G.nu F.cx.dep (fs.c + i + 1) = none) (hr : VRL G cs vs.toList) (h1 : ∀ x ∈ vs.toList, oneV x = true) (h2 : ∀ x ∈ cs, x.isCell = true) :
    ∃ G', Post F fs.c i G (upd d (fs.c + i + 1, cs) fs.b) fs.S (.loc F.cx.dep d (fs.c + i + 1) 0) G' (w.alloc (.cells vs ty)) (.pointer (some ⟨w.heap.size, 0, none⟩)) := by
  obtain ⟨hi, he0, hl⟩ := hp
  let cx := F.cx
  let G' : Gh := { G with nu := fun e x => if e = cx.dep ∧ x = fs.c + i + 1 then some w.heap.size else G.nu e x }
  have hnu : ∀ e x b, G.nu e x = some b → G'.nu e x = some b := fun e x b h => by
    show (if e = cx.dep ∧ x = fs.c + i + 1 then some w.heap.size else G.nu e x) = some b
    split
    · rename_i hc; rw [hc.1, hc.2, hn] at h; cases h
    · exact h
  have le : Gle G G' := ⟨fun _ _ _ h => h, fun _ _ h => h, hnu, fun t n h => ⟨n, h, Nat.le_refl _, fun _ => rfl⟩, fun _ _ _ h => h⟩
  have ext : Ext G w G' (w.alloc (.cells vs ty)) := ⟨le, by simp, fun _ _ h => .inl h, fun _ _ h => .inl h, fun _ _ _ h => .inl h, fun b hb _ _ _ => heap_alloc_lt w _ hb, fun i v b m h => .inl ⟨v, m, h⟩⟩
  have hnew : G'.nu cx.dep (fs.c + i + 1) = some w.heap.size := by simp [G']
  refine ⟨G', .loc _ _ _ _ _ hnew, hi.frame (fun _ => False) (fun _ h => h.elim) (fun b hb _ => heap_alloc_lt w _ hb) (by simp) (hi.below.alloc hi.base _) rfl rfl rfl rfl hnu, le, he0.trans F.ie ext, ⟨fun e he => ?_, fun e f k he hf k1 k2 => ?_⟩, fun e x hx => ?_⟩
  · by_cases hed : e = d
    · subst hed
      refine ⟨w.heap.size, vs, ty, by simpa [upd] using hnew, he0.size, heap_alloc_at w _, by simpa [upd] using hr.mono le, fun o => ?_, h1, by simpa [upd] using h2, fun j hj => ?_, fun t m hm => ?_, fun j v m hm => ?_⟩
      · cases hI : G.I w.heap.size o with
        | none => rfl
        | some v => have := World.block_lt_of_cell? w _ (hi.imm _ _ _ hI); simp at this
      · have := (hi.phil j _ hj).2; omega
      · have hd := hi.taud t _ hm
        obtain ⟨b, m', vs', ty', fz, k1, _, k3, _⟩ := hi.tok t _ (List.getElem?_eq_getElem hd)
        rw [show G'.tau = G.tau from rfl, k1] at hm; cases hm
        have := lt_of_heap k3; omega
      · have := (hi.ex.rvb j v _ hm).2; simp at this
    · simp only [upd, hed, if_false] at he ⊢
      exact (hl.ext ext).box e he
  · by_cases hed : e = d
    · by_cases hfd : f = d
      · rw [hed, hfd]
      · subst hed
        simp only [upd, hfd, if_false] at hf k2
        simp only [upd, if_true] at k1
        rw [hnew] at k1; cases k1
        obtain ⟨k, vs', ty', k3, _, k5, _⟩ := hl.box f hf
        have := hnu _ _ _ k3
        rw [k2] at this; cases this
        have := lt_of_heap k5; omega
    · by_cases hfd : f = d
      · subst hfd
        simp only [upd, hed, if_false] at he k1
        simp only [upd, if_true] at k2
        rw [hnew] at k2; cases k2
        obtain ⟨k, vs', ty', k3, _, k5, _⟩ := hl.box e he
        have := hnu _ _ _ k3
        rw [k1] at this; cases this
        have := lt_of_heap k5; omega
      · simp only [upd, hed, hfd, if_false] at he hf k1 k2
        exact (hl.ext ext).inj e f k he hf k1 k2
  · by_cases hc : e = cx.dep ∧ x = fs.c + i + 1
    · exact hc
    · exact absurd (by show (if _ then _ else _) = _; rw [if_neg hc]) hx

/-- a new box outside -/
theorem box_heap {F : Fix} {i : Nat} {G : Gh} {w : World} {fs : FS} {ty : TypeId} {cs : List AV} {vs : Array Value}
    (hp : Pre F fs G w) (hr : VRL G cs vs.toList) (h1 : ∀ x ∈ vs.toList, oneV x = true) (h2 : ∀ x ∈ cs, x.isCell = true) (hs : AV.sealedL cs = true) (hty : ty < rowT) :
    ∃ G', Post F fs.c i G fs.b { fs.S with H := fs.S.H ++ [⟨ty, cs⟩] } (.ptr fs.S.H.length 0) G' (w.alloc (.cells vs ty)) (.pointer (some ⟨w.heap.size, 0, none⟩)) := by
  obtain ⟨hi, he0, hl⟩ := hp
  let G' : Gh := { G with phi := fun e => if e = fs.S.H.length then some w.heap.size else G.phi e }
  have hph : ∀ e b, G.phi e = some b → G'.phi e = some b := fun e b h => by
    show (if e = fs.S.H.length then some w.heap.size else G.phi e) = some b
    split
    · rename_i hc; have := hi.phid e b h; omega
    · exact h
  have le : Gle G G' := ⟨fun _ _ _ h => h, hph, fun _ _ _ h => h, fun t n h => ⟨n, h, Nat.le_refl _, fun _ => rfl⟩, fun _ _ _ h => h⟩
  have hphi : ∀ e b, G'.phi e = some b → G.phi e = some b ∧ b < w.heap.size ∨ e = fs.S.H.length ∧ b = w.heap.size := fun e b h => by
    by_cases hc : e = fs.S.H.length
    · have : G'.phi e = some w.heap.size := by simp [G', hc]
      rw [h] at this; cases this; exact .inr ⟨hc, rfl⟩
    · have h' : G.phi e = some b := by simpa [G', hc] using h
      exact .inl ⟨h', (hi.phil e b h').2⟩
  have ext : Ext G w G' (w.alloc (.cells vs ty)) := ⟨le, by simp, fun e b h => (hphi e b h).elim (fun h => .inl h.1) (fun h => .inr (by omega)), fun _ _ h => .inl h, fun _ _ _ h => .inl h, fun b hb _ _ _ => heap_alloc_lt w _ hb, fun i v b m h => .inl ⟨v, m, h⟩⟩
  have hnoI : ∀ o, G.I w.heap.size o = none := fun o => by
    cases hI : G.I w.heap.size o with
    | none => rfl
    | some v => have := World.block_lt_of_cell? w _ (hi.imm _ _ _ hI); simp at this
  refine ⟨G', .ptr _ _ _ (by simp [G']), ⟨hi.gl, hi.below.alloc hi.base _, Nat.le_trans hi.base (by simp), fun b o v h => ?_, hi.fr, fun e bx h hb => ?_, fun e b h => ?_, fun e f b k1 k2 => ?_, fun t n h => ?_, hi.taud, hi.tauj, fun e b h => ?_, fun e bx h q1 q2 => ?_, ?_⟩, le, he0.trans F.ie ext, hl.ext ext, fun _ _ h => absurd rfl h⟩
  · have hc := hi.imm b o v h
    rw [World.cell?_alloc_lt w _ _ (World.block_lt_of_cell? w _ hc)]
    exact hc
  · rw [List.getElem?_append] at h
    split at h
    · obtain ⟨b, vs', k1, k2, k3, k4, k5, k6, k7, k8⟩ := hi.box e bx h hb
      exact ⟨b, vs', hph _ _ k1, k2, by rw [heap_alloc_lt w _ (lt_of_heap k3)]; exact k3, k4.mono le, k5, k6, k7, k8⟩
    · rename_i hlt
      have he : e = fs.S.H.length := by
        rcases Nat.lt_or_ge (e - fs.S.H.length) 1 with h' | h'
        · omega
        · rw [List.getElem?_eq_none (by simpa using h')] at h; cases h
      subst he
      simp at h
      subst h
      exact ⟨w.heap.size, vs, by simp [G'], hi.base, heap_alloc_at w _, hr.mono le, hnoI, h1, h2, hs⟩
  · rcases hphi e b h with h | h
    · have := hi.phid e b h.1; simp; omega
    · simp; omega
  · rcases hphi e b k1 with k1 | k1 <;> rcases hphi f b k2 with k2 | k2
    · exact hi.phij e f b k1.1 k2.1
    · omega
    · omega
    · omega
  · obtain ⟨b, m, vs', ty', fz, k1, k2, k3, k4, k5, k6, k7⟩ := hi.tok t n h
    refine ⟨b, m, vs', ty', fz, k1, k2, by rw [heap_alloc_lt w _ (lt_of_heap k3)]; exact k3, k4, k5, fun o ho => ?_, fun e he => ?_⟩
    · rw [World.frozen?_of_block (w := w) (heap_alloc_lt w _ (lt_of_heap k3))]; exact k6 o ho
    · have := lt_of_heap k3
      rcases hphi e b he with h | h
      · exact k7 e h.1
      · omega
  · rcases hphi e b h with h | h
    · have := hi.phil e b h.1; simp; omega
    · have := hi.base; simp; omega
  · have hn : e ≠ fs.S.H.length := fun hc => by
      subst hc; simp at h; subst h; exact absurd q1 (Nat.not_le.2 hty)
    have hlt : e < fs.S.H.length := by
      have := (List.getElem?_eq_some_iff.1 h).1; simp at this; omega
    rw [List.getElem?_append_left hlt] at h
    have := hi.tel e bx h q1 q2
    simpa [G', hn] using this
  · refine hi.ex.stay le rfl (fun e bx q h => ?_) (by simp) (by simp) (fun b hb => heap_alloc_lt w _ (hb.lt hi)) (fun b hb o => hb.I hi o) (fun e b h => (hphi e b h).elim (fun h => .inl h.1) fun h => .inr (by omega)) (fun t x h => .inl h)
    rw [List.getElem?_append] at h
    split at h
    · exact h
    · rename_i hge
      exfalso
      have h0 : e - fs.S.H.length = 0 := by
        rcases Nat.lt_or_ge (e - fs.S.H.length) 1 with h' | h'
        · omega
        · rw [List.getElem?_eq_none (by simpa using h')] at h; cases h
      rw [h0] at h
      simp at h
      subst h
      exact absurd q (Nat.not_le.2 hty)

theorem sealedL_mem {l : List AV} : AV.sealedL l = true ↔ ∀ x ∈ l, x.sealed = true := by
  induction l with
  | nil => simp [AV.sealedL]
  | cons a l ih => simp [AV.sealedL, ih]

theorem wrc_spec {off : Nat} {new cs r : List AV} (h : wrc off new cs = some r) : off + new.length ≤ cs.length ∧ r = cs.take off ++ (new ++ cs.drop (off + new.length)) := by
  unfold wrc at h
  split at h
  · cases h; exact ⟨‹_›, rfl⟩
  · cases h
theorem wrc_mem {off : Nat} {new cs r : List AV} (h : wrc off new cs = some r) {p : AV → Prop} (h1 : ∀ x ∈ new, p x) (h2 : ∀ x ∈ cs, p x) : ∀ x ∈ r, p x := by
  obtain ⟨_, rfl⟩ := wrc_spec h
  intro x hx
  simp only [List.mem_append] at hx
  rcases hx with hx | hx | hx
  · exact h2 x (List.mem_of_mem_take hx)
  · exact h1 x hx
  · exact h2 x (List.mem_of_mem_drop hx)
theorem wrc_put {G : Gh} {off : Nat} {new cs r : List AV} (h : wrc off new cs = some r) {nv : List Value} {vs : Array Value} (h1 : VRL G new nv) (h2 : VRL G cs vs.toList) : VRL G r (putL off nv vs).toList := by
  obtain ⟨hle, rfl⟩ := wrc_spec h
  have l1 := h1.length
  have l2 := h2.length
  simp at l2
  rw [putL_toList nv off vs (by omega)]
  exact (h2.take off).append (h1.append (by rw [l1]; exact h2.drop _))
theorem putL_one {off : Nat} {nv : List Value} {vs : Array Value} (hle : off + nv.length ≤ vs.size) (h1 : ∀ x ∈ nv, oneV x = true) (h2 : ∀ x ∈ vs.toList, oneV x = true) : ∀ x ∈ (putL off nv vs).toList, oneV x = true := by
  rw [putL_toList nv off vs hle]
  intro x hx
  simp only [List.mem_append] at hx
  rcases hx with hx | hx | hx
  · exact h2 x (List.mem_of_mem_take hx)
  · exact h1 x hx
  · exact h2 x (List.mem_of_mem_drop hx)

theorem setL_os {b : Nat} : ∀ (l : List Value) (o : Nat) (w : World), (setL b o l w).os = w.os ∧ (setL b o l w).tape = w.tape ∧ (setL b o l w).output = w.output
  | [], _, _ => ⟨rfl, rfl, rfl⟩
  | v :: l, o, w => by rw [setL]; exact setL_os l (o + 1) _

/-- a store into a local box -/
theorem store_local {F : Fix} {i d ver off k : Nat} {G : Gh} {w : World} {fs : FS} {new cs : List AV} {nv : List Value}
    (hp : Pre F fs G w) (hv : (fs.b d).1 = ver) (h0 : ver ≠ 0) (hk : G.nu F.cx.dep ver = some k) (hw : wrc off new (fs.b d).2 = some cs)
    (hr : VRL G new nv) (h1 : ∀ x ∈ nv, oneV x = true) (h2 : ∀ x ∈ new, x.isCell = true) :
    (∀ j, j < nv.length → (w.cell? ⟨k, off + j, none⟩).isSome = true) ∧ (∀ j, j < nv.length → w.frozen? ⟨k, off + j, none⟩ = false) ∧
    Post F fs.c i G (upd d (ver, cs) fs.b) fs.S .undef G (setL k off nv w) (.tuple #[]) := by
  obtain ⟨hi, he0, hl⟩ := hp
  obtain ⟨k', vs, ty, k1, k2, k3, k4, k5, k6, k7, k8, k9, k10⟩ := hl.box d (by rw [hv]; exact h0)
  rw [hv, hk] at k1; cases k1
  have hlen := hr.length
  have hlen2 := k4.length
  simp at hlen2
  obtain ⟨hle, _⟩ := wrc_spec hw
  refine ⟨fun j hj => ?_, fun j _ => frozen_of_heap k3, .undef, ?_, .refl G, ?_, ⟨fun e he => ?_, fun e f x he hf x1 x2 => ?_⟩, fun _ _ h => absurd rfl h⟩
  · rw [cell_of_heap k3]; simp; omega
  · exact hi.frame (fun b => b = k) (fun b hb => by subst hb; exact ⟨k8, k9, k5, k10⟩) (fun b _ hb => setL_heap_other nv off w b hb) (by rw [setL_size]; exact Nat.le_refl _) (setL_below (Nat.le_trans F.ie.base k2) nv off w hi.below) rfl rfl rfl rfl (fun _ _ _ h => h)
  · exact he0.other (by rw [setL_size]; exact Nat.le_refl _) fun b hb _ _ _ => setL_heap_other nv off w b (by omega)
  · by_cases hed : e = d
    · subst hed
      exact ⟨k, putL off nv vs, ty, by simpa [upd] using hk, k2, setL_heap_same nv off w vs ty (0, 0) k3, by simpa [upd] using wrc_put hw hr k4, k5, putL_one (by omega) h1 k6, by simpa [upd] using wrc_mem hw h2 k7, k8, k9, k10⟩
    · simp only [upd, hed, if_false] at he ⊢
      obtain ⟨x, vs', ty', x1, x2, x3, x4, x5, x6, x7, x8, x9, x10⟩ := hl.box e he
      refine ⟨x, vs', ty', x1, x2, ?_, x4, x5, x6, x7, x8, x9, x10⟩
      rw [setL_heap_other nv off w x fun hx => hed (hl.inj e d x he (by rw [hv]; exact h0) x1 (by rw [hv, hx]; exact hk))]
      exact x3
  · have t : ∀ y, (upd d (ver, cs) fs.b y).1 = (fs.b y).1 := fun y => by
      unfold upd; split
      · rename_i hy; subst hy; exact hv.symm
      · rfl
    rw [t] at he hf x1 x2
    exact hl.inj e f x he hf x1 x2

/-- a store into a box outside -/
theorem store_heap {F : Fix} {i id off k : Nat} {G : Gh} {w : World} {fs : FS} {bx : HBox} {new cs : List AV} {nv : List Value}
    (hp : Pre F fs G w) (hb : fs.S.H[id]? = some bx) (hty : bx.ty < rowT) (hk : G.phi id = some k) (hw : wrc off new bx.cs = some cs) (hse : AV.sealedL new = true)
    (hr : VRL G new nv) (h1 : ∀ x ∈ nv, oneV x = true) (h2 : ∀ x ∈ new, x.isCell = true) :
    (∀ j, j < nv.length → (w.cell? ⟨k, off + j, none⟩).isSome = true) ∧ (∀ j, j < nv.length → w.frozen? ⟨k, off + j, none⟩ = false) ∧
    Post F fs.c i G fs.b { fs.S with H := fs.S.H.set id ⟨bx.ty, cs⟩ } .undef G (setL k off nv w) (.tuple #[]) := by
  obtain ⟨hi, he0, hl⟩ := hp
  obtain ⟨k', vs, k1, k2, k3, k4, k5, k6, k7, k8⟩ := hi.box id bx hb hty
  rw [hk] at k1; cases k1
  have hlen := hr.length
  have hlen2 := k4.length
  simp at hlen2
  obtain ⟨hle, _⟩ := wrc_spec hw
  have hid : id < fs.S.H.length := hi.phid id k hk
  have hIk : ∀ b o v, G.I b o = some v → b ≠ k := fun b o v h e => by subst e; rw [k5 o] at h; cases h
  refine ⟨fun j hj => ?_, fun j _ => frozen_of_heap k3, .undef, ⟨hi.gl, setL_below k2 nv off w hi.below, by rw [setL_size]; exact hi.base, fun b o v h => ?_, hi.fr, fun e b h hq => ?_, fun e b h => ?_, hi.phij, fun t n h => ?_, hi.taud, hi.tauj, fun e b h => ?_, fun e b h q1 q2 => ?_, ?_⟩, .refl G, ?_, ?_, fun _ _ h => absurd rfl h⟩
  · rw [cell_of_heap k3]; simp; omega
  · have := hi.imm b o v h
    rw [World.cell?_of_block (w := w) (setL_heap_other nv off w b (hIk b o v h))]
    exact this
  · by_cases hei : e = id
    · subst hei
      rw [List.getElem?_set_self hid] at h
      cases h
      exact ⟨k, putL off nv vs, hk, k2, setL_heap_same nv off w vs _ _ k3, wrc_put hw hr k4, k5, putL_one (by omega) h1 k6, wrc_mem hw h2 k7, sealedL_mem.2 (wrc_mem hw (sealedL_mem.1 hse) (sealedL_mem.1 k8))⟩
    · rw [List.getElem?_set_ne (by omega)] at h
      obtain ⟨x, vs', x1, x2, x3, x4, x5, x6, x7, x8⟩ := hi.box e b h hq
      refine ⟨x, vs', x1, x2, ?_, x4, x5, x6, x7, x8⟩
      rw [setL_heap_other nv off w x fun hx => hei (hi.phij e id x x1 (by rw [hx]; exact hk))]
      exact x3
  · have := hi.phid e b h; simpa using this
  · obtain ⟨b, m, vs', ty', fz, x1, x2, x3, x4, x5, x6, x7⟩ := hi.tok t n h
    have hne : b ≠ k := fun e => x7 id (by rw [e]; exact hk)
    have hh := setL_heap_other nv off w b hne
    exact ⟨b, m, vs', ty', fz, x1, x2, by rw [hh]; exact x3, x4, x5, fun o ho => by rw [World.frozen?_of_block (w := w) hh]; exact x6 o ho, x7⟩
  · rw [setL_size]; exact hi.phil e b h
  · by_cases hei : e = id
    · subst hei
      rw [List.getElem?_set_self hid] at h
      cases h; exact absurd q1 (Nat.not_le.2 hty)
    · rw [List.getElem?_set_ne (by omega)] at h
      exact hi.tel e b h q1 q2
  · have hH : ∀ (e : Nat) bx', rowT ≤ bx'.ty → (fs.S.H.set id ⟨bx.ty, cs⟩)[e]? = some bx' → fs.S.H[e]? = some bx' := fun e bx' q h => by
      by_cases hei : e = id
      · subst hei
        rw [List.getElem?_set_self hid] at h
        cases h; exact absurd q (Nat.not_le.2 hty)
      · rwa [List.getElem?_set_ne (by omega)] at h
    refine hi.ex.stay (.refl G) rfl hH (by simp) (by rw [setL_size]; exact Nat.le_refl _) (fun b hb' => setL_heap_other nv off w b fun e => ?_) (fun b hb' o => hb'.I hi o) (fun e b h => .inl h) (fun t x h => .inl h)
    subst e
    rcases hb' with ⟨i', v, m, h⟩ | ⟨i', bx', h1', h2', h⟩
    · exact hi.ex.rvp i' v b m id h hk
    · obtain rfl := hi.phij i' id b h hk
      rw [hb] at h1'; cases h1'
      exact absurd (Nat.le_trans (show rowT ≤ mapT by decide) h2') (Nat.not_le.2 hty)
  · refine he0.other (by rw [setL_size]; exact Nat.le_refl _) fun b hb' hp' _ _ => setL_heap_other nv off w b fun e => ?_
    rcases he0.phi id k hk with h | h
    · exact hp' id (by rw [e]; exact h)
    · omega
  · refine ⟨fun e he => ?_, hl.inj⟩
    obtain ⟨x, vs', ty', x1, x2, x3, x4, x5, x6, x7, x8, x9, x10⟩ := hl.box e he
    refine ⟨x, vs', ty', x1, x2, ?_, x4, x5, x6, x7, x8, x9, x10⟩
    rw [setL_heap_other nv off w x fun hx => x8 id (by rw [hx]; exact hk)]
    exact x3
end Go.Proofs.YtcpoinfdnimanaaGreatDoor.AE
/- The evaluator's plain operations are those of the model. No condition. -/
namespace Go.Proofs.YtcpoinfdnimanaaGreatDoor.AE
set_option linter.unusedVariables false
set_option linter.unusedSimpArgs false
open Go Go.RowKit

theorem run_loadCells_zero {P : Program} (a : Addr) (w : World) : (loadCells a 0).run P w = .ok #[] w := by
  simp [loadCells, loadCellsFrom]

theorem rho_VR {G : Gh} {t : Nat → AV} {a : Act} (h : ∀ x, VR G (t x) (a.tmps.getD x undef)) (o : Operand) : VR G (rho t o) (a.eval o) := by
  cases o with
  | tmp x => exact h x
  | const v => exact ofC_VR G v
  | global g => exact .junk _
  | func f => exact .fn f [] [] #[] #[] .nil .nil

theorem VR.inv_int {G : Gh} {k : IntKind} {n : Int} {v : Value} (h : VR G (.int k n) v) : v = .int k n := by cases h; rfl
theorem VR.inv_bool {G : Gh} {b : Bool} {v : Value} (h : VR G (.bool b) v) : v = .bool b := by cases h; rfl
theorem VR.inv_str {G : Gh} {s : List UInt8} {v : Value} (h : VR G (.str s) v) : ∃ bs : ByteArray, v = .string bs ∧ bs.data.toList = s := by cases h; exact ⟨_, rfl, rfl⟩
theorem VR.inv_loc {G : Gh} {dep d ver o : Nat} {v : Value} (h : VR G (.loc dep d ver o) v) : ∃ b, v = .pointer (some ⟨b, o, none⟩) ∧ G.nu dep ver = some b := by
  cases h with | loc _ _ _ _ b hb => exact ⟨b, rfl, hb⟩
theorem VR.inv_ptr {G : Gh} {id o : Nat} {v : Value} (h : VR G (.ptr id o) v) : ∃ b, v = .pointer (some ⟨b, o, none⟩) ∧ G.phi id = some b := by
  cases h with | ptr _ _ b hb => exact ⟨b, rfl, hb⟩
theorem VR.inv_rp {G : Gh} {id ver o : Nat} {v : Value} (h : VR G (.rp id ver o) v) : ∃ b m, v = .pointer (some ⟨b, o, none⟩) ∧ G.rv id ver = some (b, m) := by
  cases h with | rp _ _ _ b m h => exact ⟨b, m, rfl, h⟩
theorem VR.inv_ref {G : Gh} {cs : List AV} {v : Value} (h : VR G (.ref cs) v) : ∃ b o, v = .pointer (some ⟨b, o, none⟩) ∧ VRI G cs b o := by
  cases h with | ref _ b o hb => exact ⟨b, o, rfl, hb⟩
theorem str_VR {G : Gh} {s : List UInt8} {bs : ByteArray} (h : bs.data.toList = s) : VR G (.str s) (.string bs) := by subst h; exact .str bs

theorem evBin_run {P : Program} {G : Gh} {w : World} {op : BinOp} {t : TypeId} {x y r : AV} {a b : Value} (ox oy : Operand) (hx : VR G x a) (hy : VR G y b) (h : evBin (boolQ P t) op x y = some r) :
    ∃ v, (do eqGuard op t ox oy a b; binOp op t a b : Sem Value).run P w = .ok v w ∧ VR G r v := by
  unfold evBin at h
  split at h
  · -- numbers
    rename_i k m k' n
    rw [hx.inv_int, hy.inv_int]
    have g : ∀ u : World, (eqGuard op t ox oy (.int k m) (.int k' n)).run P u = .ok () u := fun u => by
      unfold eqGuard; cases op <;> rfl
    simp only [Sem.run_bind, g, Result.andThen_ok]
    split at h
    · split at h
      · cases h
        rename_i h0
        refine ⟨_, ?_, .int _ _⟩
        simp [binOp, Op.shift, show ¬ n < 0 by omega]
      · cases h
    · split at h
      · cases h
        rename_i h0
        refine ⟨_, ?_, .int _ _⟩
        simp [binOp, Op.shift, show ¬ n < 0 by omega]
      · cases h
    · rename_i hs1 hs2
      split at h
      · rename_i hk
        subst hk
        split at h
        case h_4 =>
          split at h
          · cases h
          · cases h; rename_i hn; exact ⟨_, by simp [binOp, Op.intDiv, hn], .int _ _⟩
        case h_5 =>
          split at h
          · cases h
          · cases h; rename_i hn; exact ⟨_, by simp [binOp, Op.intDiv, hn], .int _ _⟩
        all_goals first
          | (cases h; exact ⟨_, by simp [binOp, Op.intArith, Op.intBits, Op.intCmp] <;> rfl, by constructor⟩)
          | cases h
      · cases h
  · -- truths
    rename_i m n
    rw [hx.inv_bool, hy.inv_bool]
    have g : ∀ u : World, (eqGuard op t ox oy (.bool m) (.bool n)).run P u = .ok () u := fun u => by
      unfold eqGuard; cases op <;> rfl
    simp only [Sem.run_bind, g, Result.andThen_ok]
    split at h
    · rename_i hb
      have hu : P.underlying t = some .bool := by
        unfold boolQ at hb
        split at hb
        · assumption
        · cases hb
      have he : (Op.equal t (.bool m) (.bool n)).run P w = .ok (m == n) w := run_equalIn_bool' (P := P) w 9999 t m n hu
      split at h
      · cases h; exact ⟨_, by simp [binOp, he], .bool _⟩
      · cases h; exact ⟨_, by simp [binOp, he], .bool _⟩
      · cases h
    · cases h
  · -- texts
    rename_i m n
    obtain ⟨p, rfl, rfl⟩ := hx.inv_str
    obtain ⟨q, rfl, rfl⟩ := hy.inv_str
    have g : ∀ u : World, (eqGuard op t ox oy (.string p) (.string q)).run P u = .ok () u := fun u => by
      unfold eqGuard; cases op <;> rfl
    have hp : p.data.toList.length = p.size := by rw [Array.length_toList]; rfl
    have hq : q.data.toList.length = q.size := by rw [Array.length_toList]; rfl
    simp only [Sem.run_bind, g, Result.andThen_ok]
    split at h
    · split at h
      · cases h
        rename_i hle
        refine ⟨.string (p ++ q), ?_, str_VR (by simp)⟩
        have : ¬ ((p.size + q.size : Nat) : Int) > IntKind.i64.max := by
          rw [show IntKind.i64.max = 9223372036854775807 by rfl]; omega
        simp only [binOp, Op.stringOp, this, if_false, Sem.run_pure]
      · cases h
    all_goals first
      | (cases h; exact ⟨_, by simp only [binOp, Op.stringOp, ByteArray.toList_eq, Sem.run_pure] <;> rfl, .bool _⟩)
      | cases h
  · cases h

theorem cmpN_spec {op : BinOp} {q : Bool} {r : AV} (h : cmpN op q = some r) : (op = .eql ∧ r = .bool q) ∨ (op = .neq ∧ r = .bool (!q)) := by
  unfold cmpN at h
  split at h
  · cases h; exact .inl ⟨rfl, rfl⟩
  · cases h; exact .inr ⟨rfl, rfl⟩
  · cases h
theorem ifcQ_spec {P : Program} {t : TypeId} (h : ifcQ P t = true) : ∃ ms, P.underlying t = some (.interface ms) := by
  unfold ifcQ at h
  split at h
  · exact ⟨_, by assumption⟩
  · cases h
theorem sliceQ_some {P : Program} {t : TypeId} (h : (sliceQ P t).isSome = true) : ∃ e, P.underlying t = some (.slice e) := by
  unfold sliceQ at h
  split at h
  · exact ⟨_, by assumption⟩
  · cases h
theorem ofC_slice {v : Value} {es : List AV} {tok : Tok} (h : ofC v = .slice es tok) : v = .slice none 0 0 ∧ es = [] ∧ tok = .clip := by
  unfold ofC at h
  split at h
  · cases h
  · unfold ofC0 at h
    split at h <;> first | (cases h; exact ⟨rfl, rfl, rfl⟩) | cases h
theorem ofC_sl (v : Value) {a b c d e f : Nat} : ofC v ≠ .sl a b c d e f := fun h => by
  unfold ofC at h
  split at h
  · cases h
  · unfold ofC0 at h
    split at h <;> cases h
theorem scFit_plain {P : Program} {t : TypeId} {v : AV} (h : scFit P t v = true) : P.plainKey t = true := by
  unfold scFit at h
  unfold Program.plainKey
  split at h <;> first | (rename_i hu _; rw [hu]; done) | (rename_i hu; rw [hu]; done) | (cases h; done) | simp_all
theorem scEq_run {P : Program} {G : Gh} {w : World} {t : TypeId} {x y : AV} {a b : Value} (d : Nat) (hx : VR G x a) (hy : VR G y b) (h1 : scFit P t x = true) (h2 : scFit P t y = true) :
    (Op.equalIn (d + 1) t a b).run P w = .ok (scEq x y) w := by
  unfold scFit at h1
  split at h1
  · rename_i m hu
    unfold scFit at h2; rw [hu] at h2
    cases y <;> simp at h2
    rw [hx.inv_bool, hy.inv_bool]
    exact run_equalIn_bool' w d t _ _ hu
  · rename_i k k' m hu
    simp at h1; subst h1
    unfold scFit at h2; rw [hu] at h2
    cases y <;> simp at h2
    subst h2
    rw [hx.inv_int, hy.inv_int]
    exact run_equalIn_int w d t _ _ _ _ hu
  · rename_i s hu
    unfold scFit at h2; rw [hu] at h2
    cases y <;> simp at h2
    obtain ⟨p, rfl, rfl⟩ := hx.inv_str
    obtain ⟨q, rfl, rfl⟩ := hy.inv_str
    rw [run_equalIn_string w d t _ _ hu, ByteArray.toList_eq, ByteArray.toList_eq]
    rfl
  · cases h1
theorem drop_head {xs : Array Value} {i : Nat} {v : Value} {l : List Value} (h : xs.toList.drop i = v :: l) : xs[i]? = some v ∧ xs.toList.drop (i + 1) = l := by
  constructor
  · have := congrArg (·[0]?) h
    simpa using this
  · rw [← List.drop_drop, h]; rfl
theorem eqFs_run {P : Program} {G : Gh} {w : World} (d : Nat) {xs ys : Array Value} : ∀ (fs : List Field) (i : Nat) (as bs : List AV) (r : Bool), eqFs P i fs as bs = some r → VRL G as (xs.toList.drop i) → VRL G bs (ys.toList.drop i) →
    (Op.eqFields (d + 1) xs ys fs).run P w = .ok r w
  | [], i, as, bs, r, h, _, _ => by simp [eqFs] at h; subst h; simp [Op.eqFields]
  | f :: fs, i, [], bs, r, h, _, _ => by simp [eqFs] at h
  | f :: fs, i, a :: as, [], r, h, _, _ => by simp [eqFs] at h
  | f :: fs, i, a :: as, b :: bs, r, h, ha, hb => by
    simp only [eqFs] at h
    split at h
    · rename_i hc
      obtain ⟨h1, h2, h3, h4⟩ := hc
      split at h
      · rename_i r' hr
        cases h
        generalize hxs : xs.toList.drop i = l1 at ha
        generalize hys : ys.toList.drop i = l2 at hb
        cases ha with
        | cons _ v _ l ha hl =>
          cases hb with
          | cons _ u _ m hb hm =>
            obtain ⟨e1, e2⟩ := drop_head hxs
            obtain ⟨e3, e4⟩ := drop_head hys
            have ih := eqFs_run (w := w) d fs (i + 1) as bs r' hr (by rw [e2]; exact hl) (by rw [e4]; exact hm)
            simp only [Op.eqFields, h2, ne_eq, not_false_eq_true, if_true, Sem.run_bind, h1, run_part_plain w (scFit_plain h3) e1, run_part_plain w (scFit_plain h3) e3, Result.andThen_ok, scEq_run d ha hb h3 h4]
            cases scEq a b
            · simp
            · simpa using ih
      · cases h
    · cases h
theorem eqIs_run {P : Program} {G : Gh} {w : World} (d : Nat) {e : TypeId} {xs ys : Array Value} : ∀ (as bs : List AV) (i : Nat) (r : Bool), eqIs P e as bs = some r → VRL G as (xs.toList.drop i) → VRL G bs (ys.toList.drop i) →
    (Op.eqItems (d + 1) e 1 xs ys (List.range' i as.length)).run P w = .ok r w
  | [], [], i, r, h, _, _ => by simp [eqIs] at h; subst h; simp [Op.eqItems]
  | [], b :: bs, i, r, h, _, _ => by simp [eqIs] at h
  | a :: as, [], i, r, h, _, _ => by simp [eqIs] at h
  | a :: as, b :: bs, i, r, h, ha, hb => by
    simp only [eqIs] at h
    split at h
    · rename_i hc
      obtain ⟨h3, h4⟩ := hc
      split at h
      · rename_i r' hr
        cases h
        generalize hxs : xs.toList.drop i = l1 at ha
        generalize hys : ys.toList.drop i = l2 at hb
        cases ha with
        | cons _ v _ l ha hl =>
          cases hb with
          | cons _ u _ m hb hm =>
            obtain ⟨e1, e2⟩ := drop_head hxs
            obtain ⟨e3, e4⟩ := drop_head hys
            have ih := eqIs_run (w := w) d (e := e) as bs (i + 1) r' hr (by rw [e2]; exact hl) (by rw [e4]; exact hm)
            simp only [List.length_cons, List.range'_succ, Op.eqItems, Nat.mul_one, Sem.run_bind, run_part_plain w (scFit_plain h3) e1, run_part_plain w (scFit_plain h3) e3, Result.andThen_ok, scEq_run d ha hb h3 h4]
            cases scEq a b
            · simp
            · simpa using ih
      · cases h
    · cases h
theorem eqAgg_run {P : Program} {G : Gh} {w : World} {t : TypeId} {as bs : List AV} {xs ys : Array Value} {q : Bool} (h : eqAgg P t as bs = some q) (ha : VRL G as xs.toList) (hb : VRL G bs ys.toList) :
    P.eqGuardType P.depth t = false ∧ ∀ d, (Op.equalIn (d + 2) t (.agg xs) (.agg ys)).run P w = .ok q w := by
  unfold eqAgg at h
  split at h
  · rename_i hc
    refine ⟨hc.2, fun d => ?_⟩
    split at h
    · rename_i fs hu
      have hf : P.fieldsOf t = fs := by unfold Program.fieldsOf; rw [hu]
      rw [run_equalIn_struct w (d + 1) t xs ys (by rw [hu, hf]) hc.1, hf]
      exact eqFs_run d fs.toList 0 as bs q h (by simpa using ha) (by simpa using hb)
    · rename_i n e hu
      split at h
      · rename_i hn
        obtain ⟨i, hi⟩ := Option.isSome_iff_exists.1 hn.2.2
        rw [run_equalIn_array w (d + 1) xs ys hu hi, hn.2.1, List.range_eq_range', ← hn.1]
        exact eqIs_run d as bs 0 q h (by simpa using ha) (by simpa using hb)
      · cases h
    · cases h
  · cases h
set_option maxHeartbeats 1600000 in
theorem evB2_run {P : Program} {G : Gh} {w : World} {op : BinOp} {t : TypeId} {x y r : AV} {a b : Value} (ox oy : Operand) (hx : VR G x a) (hy : VR G y b) (hcx : ∀ v, ox = .const v → a = v ∧ x = ofC v) (hcy : ∀ v, oy = .const v → b = v ∧ y = ofC v) (h : evB2 P t (isC ox || isC oy) op x y = some r) :
    ∃ v, (do eqGuard op t ox oy a b; binOp op t a b : Sem Value).run P w = .ok v w ∧ VR G r v := by
  have eqv : ∀ {q : Bool} {a b : Value}, ifcQ P t = true → (∀ d ms, P.underlying t = some (.interface ms) → (Op.equalIn (d + 1) t a b).run P w = .ok q w) → (∀ u : World, ∀ op, op = .eql ∨ op = .neq → (eqGuard op t ox oy a b).run P u = .ok () u) →
      (∀ op, op = .eql ∨ op = .neq → binOp op t a b = (do let e ← Op.equal t a b; pure (.bool (if op = .eql then e else !e)))) → cmpN op q = some r →
      ∃ v, (do eqGuard op t ox oy a b; binOp op t a b : Sem Value).run P w = .ok v w ∧ VR G r v := by
    intro q a b hi he hg hb hc
    obtain ⟨ms, hms⟩ := ifcQ_spec hi
    have h1 := he 9999 ms hms
    rcases cmpN_spec hc with ⟨rfl, rfl⟩ | ⟨rfl, rfl⟩
    · refine ⟨.bool q, ?_, .bool q⟩
      simp only [Sem.run_bind, hg w _ (.inl rfl), Result.andThen_ok, hb _ (.inl rfl)]
      simp [Op.equal, Op.maxDepth, h1]
    · refine ⟨.bool (!q), ?_, .bool _⟩
      simp only [Sem.run_bind, hg w _ (.inr rfl), Result.andThen_ok, hb _ (.inr rfl)]
      simp [Op.equal, Op.maxDepth, h1]
  have pqv : ∀ {q : Bool} {a b : Value}, ptrQ P t = true → (∀ d e, P.underlying t = some (.pointer e) → (Op.equalIn (d + 1) t a b).run P w = .ok q w) → (∀ u : World, ∀ op, op = .eql ∨ op = .neq → (eqGuard op t ox oy a b).run P u = .ok () u) →
      (∀ op, op = .eql ∨ op = .neq → binOp op t a b = (do let e ← Op.equal t a b; pure (.bool (if op = .eql then e else !e)))) → cmpN op q = some r →
      ∃ v, (do eqGuard op t ox oy a b; binOp op t a b : Sem Value).run P w = .ok v w ∧ VR G r v := by
    intro q a b hi he hg hb hc
    obtain ⟨e, hms⟩ : ∃ e, P.underlying t = some (.pointer e) := by
      unfold ptrQ at hi
      split at hi
      · rename_i e he; exact ⟨e, he⟩
      · cases hi
    have h1 := he 9999 e hms
    rcases cmpN_spec hc with ⟨rfl, rfl⟩ | ⟨rfl, rfl⟩
    · refine ⟨.bool q, ?_, .bool q⟩
      simp only [Sem.run_bind, hg w _ (.inl rfl), Result.andThen_ok, hb _ (.inl rfl)]
      simp [Op.equal, Op.maxDepth, h1]
    · refine ⟨.bool (!q), ?_, .bool _⟩
      simp only [Sem.run_bind, hg w _ (.inr rfl), Result.andThen_ok, hb _ (.inr rfl)]
      simp [Op.equal, Op.maxDepth, h1]
  have mqv : ∀ {q : Bool} {a b : Value}, mapB P t = true → (∀ d k e, P.underlying t = some (.map k e) → (Op.equalIn (d + 1) t a b).run P w = .ok q w) → (∀ u : World, ∀ op, op = .eql ∨ op = .neq → (eqGuard op t ox oy a b).run P u = .ok () u) →
      (∀ op, op = .eql ∨ op = .neq → binOp op t a b = (do let e ← Op.equal t a b; pure (.bool (if op = .eql then e else !e)))) → cmpN op q = some r →
      ∃ v, (do eqGuard op t ox oy a b; binOp op t a b : Sem Value).run P w = .ok v w ∧ VR G r v := by
    intro q a b hi he hg hb hc
    obtain ⟨k, e, hms⟩ : ∃ k e, P.underlying t = some (.map k e) := by
      unfold mapB at hi
      split at hi
      · rename_i k e he; exact ⟨k, e, he⟩
      · cases hi
    have h1 := he 9999 k e hms
    rcases cmpN_spec hc with ⟨rfl, rfl⟩ | ⟨rfl, rfl⟩
    · refine ⟨.bool q, ?_, .bool q⟩
      simp only [Sem.run_bind, hg w _ (.inl rfl), Result.andThen_ok, hb _ (.inl rfl)]
      simp [Op.equal, Op.maxDepth, h1]
    · refine ⟨.bool (!q), ?_, .bool _⟩
      simp only [Sem.run_bind, hg w _ (.inr rfl), Result.andThen_ok, hb _ (.inr rfl)]
      simp [Op.equal, Op.maxDepth, h1]
  have sqv : ∀ {q : Bool} {a b : Value}, (sliceQ P t).isSome = true → (∀ d e, P.underlying t = some (.slice e) → (Op.equalIn (d + 1) t a b).run P w = .ok q w) → (∀ u : World, ∀ op, op = .eql ∨ op = .neq → (eqGuard op t ox oy a b).run P u = .ok () u) →
      (∀ op, op = .eql ∨ op = .neq → binOp op t a b = (do let e ← Op.equal t a b; pure (.bool (if op = .eql then e else !e)))) → cmpN op q = some r →
      ∃ v, (do eqGuard op t ox oy a b; binOp op t a b : Sem Value).run P w = .ok v w ∧ VR G r v := by
    intro q a b hi he hg hb hc
    obtain ⟨e, hms⟩ := sliceQ_some hi
    have h1 := he 9999 e hms
    rcases cmpN_spec hc with ⟨rfl, rfl⟩ | ⟨rfl, rfl⟩
    · refine ⟨.bool q, ?_, .bool q⟩
      simp only [Sem.run_bind, hg w _ (.inl rfl), Result.andThen_ok, hb _ (.inl rfl)]
      simp [Op.equal, Op.maxDepth, h1]
    · refine ⟨.bool (!q), ?_, .bool _⟩
      simp only [Sem.run_bind, hg w _ (.inr rfl), Result.andThen_ok, hb _ (.inr rfl)]
      simp [Op.equal, Op.maxDepth, h1]
  have hconst : (isC ox || isC oy) = true → (∀ v, ox = .const v → False) → y = .slice [] .clip → b = .slice none 0 0 := fun hk hn hy' => by
    cases oy with
    | const v =>
      obtain ⟨h1, h2⟩ := hcy v rfl
      rw [hy'] at h2
      rw [h1, (ofC_slice h2.symm).1]
    | _ =>
      cases ox with
      | const v => exact (hn v rfl).elim
      | _ => simp [isC] at hk
  unfold evB2 at h
  split at h
  · split at h
    · rename_i hi
      cases hx with
      | iface t1 a1 v1 _ =>
        cases hy
        exact eqv hi (fun d ms hm => by simp [Op.equalIn, run_underlying' P w t _ hm]) (fun u op ho => by rcases ho with rfl | rfl <;> rfl) (fun op ho => by rcases ho with rfl | rfl <;> rfl) h
    · cases h
  · split at h
    · rename_i hi
      cases hy with
      | iface t1 a1 v1 _ =>
        cases hx
        exact eqv hi (fun d ms hm => by simp [Op.equalIn, run_underlying' P w t _ hm]) (fun u op ho => by rcases ho with rfl | rfl <;> rfl) (fun op ho => by rcases ho with rfl | rfl <;> rfl) h
    · cases h
  · split at h
    · rename_i hi
      simp only [Bool.and_eq_true, Bool.or_eq_true] at hi
      cases hx
      cases hy
      refine eqv hi.1 (fun d ms hm => by simp [Op.equalIn, run_underlying' P w t _ hm]) (fun u op ho => ?_) (fun op ho => by rcases ho with rfl | rfl <;> rfl) h
      have hk : ((ox matches .const _) || (oy matches .const _)) = true := by
        have := hi.2
        unfold isC at this
        rcases this with h | h
        · cases ox <;> simp_all
        · cases oy <;> simp_all
      have hr : ∀ op : BinOp, op = .eql ∨ op = .neq → (eqGuard op t ox oy .nilIface .nilIface).run P u = .ok () u := fun op ho => by
        unfold eqGuard
        have h1 : (!(op matches .eql | .neq)) = false := by rcases ho with rfl | rfl <;> rfl
        cases ox <;> cases oy <;> first | (cases hk; done) | (rcases ho with rfl | rfl <;> rfl)
      exact hr op ho
    · cases h
  · split at h
    · rename_i hi
      cases hx with
      | ptr id off b0 _ =>
        cases hy
        exact pqv hi (fun d e hm => by simp [Op.equalIn, run_underlying' P w t _ hm]) (fun u op ho => by rcases ho with rfl | rfl <;> rfl) (fun op ho => by rcases ho with rfl | rfl <;> rfl) h
    · cases h
  · split at h
    · rename_i hi
      cases hx with
      | ref cs b0 o0 _ =>
        cases hy
        exact pqv hi (fun d e hm => by simp [Op.equalIn, run_underlying' P w t _ hm]) (fun u op ho => by rcases ho with rfl | rfl <;> rfl) (fun op ho => by rcases ho with rfl | rfl <;> rfl) h
    · cases h
  · split at h
    · rename_i hi
      cases hx with
      | loc dep d0 ver off b0 _ =>
        cases hy
        exact pqv hi (fun d e hm => by simp [Op.equalIn, run_underlying' P w t _ hm]) (fun u op ho => by rcases ho with rfl | rfl <;> rfl) (fun op ho => by rcases ho with rfl | rfl <;> rfl) h
    · cases h
  · split at h
    · rename_i hi
      cases hx
      cases hy
      exact pqv hi (fun d e hm => by simp [Op.equalIn, run_underlying' P w t _ hm]) (fun u op ho => by rcases ho with rfl | rfl <;> rfl) (fun op ho => by rcases ho with rfl | rfl <;> rfl) h
    · cases h
  · split at h
    · rename_i hi
      cases hx with
      | mp id b0 _ =>
        cases hy
        exact mqv hi (fun d k e hm => by simp [Op.equalIn, run_underlying' P w t _ hm]) (fun u op ho => by rcases ho with rfl | rfl <;> rfl) (fun op ho => by rcases ho with rfl | rfl <;> rfl) h
    · cases h
  · split at h
    · rename_i hi
      cases hy with
      | mp id b0 _ =>
        cases hx
        exact mqv hi (fun d k e hm => by simp [Op.equalIn, run_underlying' P w t _ hm]) (fun u op ho => by rcases ho with rfl | rfl <;> rfl) (fun op ho => by rcases ho with rfl | rfl <;> rfl) h
    · cases h
  · split at h
    · rename_i hi
      cases hx
      cases hy
      exact mqv hi (fun d k e hm => by simp [Op.equalIn, run_underlying' P w t _ hm]) (fun u op ho => by rcases ho with rfl | rfl <;> rfl) (fun op ho => by rcases ho with rfl | rfl <;> rfl) h
    · cases h
  · split at h
    · rename_i q hq
      cases hx with
      | agg _ vs hl =>
        cases hy with
        | agg _ us hm =>
          obtain ⟨hg, he⟩ := eqAgg_run (w := w) hq hl hm
          have h1 := he 9998
          rcases cmpN_spec h with ⟨rfl, rfl⟩ | ⟨rfl, rfl⟩
          · refine ⟨.bool q, ?_, .bool q⟩
            simp only [Sem.run_bind, run_eqGuard_agg w _ t ox oy _ _ hg, Result.andThen_ok, run_eql_struct, h1]
          · refine ⟨.bool (!q), ?_, .bool _⟩
            simp only [Sem.run_bind, run_eqGuard_agg w _ t ox oy _ _ hg, Result.andThen_ok, run_neq_struct, h1]
    · cases h
  · split at h
    · rename_i x0 xs0 tok0 hi
      simp only [Bool.and_eq_true] at hi
      obtain ⟨b0, o0, cp0, rfl⟩ : ∃ b0 o0 cp0, a = .slice (some ⟨b0, o0, none⟩) (x0 :: xs0).length cp0 := by cases hx; exact ⟨_, _, _, rfl⟩
      have hb : b = .slice none 0 0 := hconst hi.1 (fun v e => by have := (ofC_slice (hcx v e).2.symm).2.1; cases this) rfl
      subst hb
      exact sqv hi.2 (fun d e hm => by simp [Op.equalIn, run_underlying' P w t _ hm]) (fun u op ho => by rcases ho with rfl | rfl <;> rfl) (fun op ho => by rcases ho with rfl | rfl <;> rfl) h
    · cases h
  · split at h
    · rename_i hi
      simp only [Bool.and_eq_true] at hi
      obtain ⟨b0, o0, ln, cp0, rfl⟩ : ∃ b0 o0 ln cp0, a = .slice (some ⟨b0, o0, none⟩) ln cp0 := by cases hx; exact ⟨_, _, _, _, rfl⟩
      have hb : b = .slice none 0 0 := hconst hi.1 (fun v e => by have := (hcx v e).2; exact absurd this.symm (ofC_sl v)) rfl
      subst hb
      exact sqv hi.2 (fun d e hm => by simp [Op.equalIn, run_underlying' P w t _ hm]) (fun u op ho => by rcases ho with rfl | rfl <;> rfl) (fun op ho => by rcases ho with rfl | rfl <;> rfl) h
    · cases h
  · split at h
    · rename_i q hi
      simp only [Bool.and_eq_true] at hi
      obtain ⟨ad, ln, cp, rfl, rfl⟩ : ∃ ad ln cp, ad.isNone = q ∧ a = .slice ad ln cp := by
        cases hx with
        | nils _ ad _ hq => exact ⟨ad, 0, 0, hq q rfl, rfl⟩
        | slice _ _ fl b0 o0 cp sz k1 k2 k3 k4 k5 => exact ⟨some ⟨b0, o0, none⟩, _, cp, k4.symm, rfl⟩
      have hb : b = .slice none 0 0 := hconst hi.1 (fun v e => by have := (ofC_slice (hcx v e).2.symm).2.2; cases this) rfl
      subst hb
      exact sqv hi.2 (fun d e hm => by cases ad <;> simp [Op.equalIn, run_underlying' P w t _ hm]) (fun u op ho => by rcases ho with rfl | rfl <;> rfl) (fun op ho => by rcases ho with rfl | rfl <;> rfl) h
    · cases h
  · exact evBin_run ox oy hx hy h

theorem evUn_run {P : Program} {G : Gh} {w : World} {op : UnOp} {x r : AV} {a : Value} (hx : VR G x a) (h : evUn op x = some r) : ∃ v, (Op.unary op a).run P w = .ok v w ∧ VR G r v := by
  unfold evUn at h
  split at h
  · cases h; rw [hx.inv_int]; exact ⟨_, rfl, .int _ _⟩
  · cases h; rw [hx.inv_bool]; exact ⟨_, rfl, .bool _⟩
  · cases h

theorem evLen_run {P : Program} {G : Gh} {w : World} {t u : TypeId} {x r : AV} {a : Value} {ts : Array TypeId} (ht : ts[0]? = some t) {l : Array Value} (hl : l[0]? = some a) (hx : VR G x a) (h : evLen P t x = some r) :
    ∃ v, (Builtin.len_ ts u l).run P w = .ok v w ∧ VR G r v := by
  unfold evLen at h
  split at h
  · rename_i s
    obtain ⟨p, rfl, rfl⟩ := hx.inv_str
    split at h
    · rename_i hs
      cases h
      have hu : P.underlying t = some .string := by
        unfold strQ at hs; split at hs
        · assumption
        · cases hs
      refine ⟨.int .i64 p.size, ?_, ?_⟩
      · simp [Builtin.len_, ht, hl, run_underlying' P w t _ hu, goInt]
      · rw [show (p.data.toList.length : Int) = (p.size : Int) by rw [Array.length_toList]; rfl]
        exact .int _ _
    · cases h
  · rename_i es tok
    split at h
    · rename_i e he
      cases h
      have hu : P.underlying t = some (.slice e) := by
        unfold sliceQ at he; split at he
        · cases he; assumption
        · cases he
      cases hx with
      | nils _ _ _ => exact ⟨.int .i64 0, by simp [Builtin.len_, ht, hl, run_underlying' P w t _ hu, goInt], .int _ _⟩
      | slice _ _ fl b o cap sz h1 h2 h3 h4 h5 => exact ⟨.int .i64 es.length, by simp [Builtin.len_, ht, hl, run_underlying' P w t _ hu, goInt], .int _ _⟩
    · cases h
  · rename_i id ver off len lim sz
    split at h
    · rename_i e he
      cases h
      have hu : P.underlying t = some (.slice e) := by
        unfold sliceQ at he; split at he
        · cases he; assumption
        · cases he
      cases hx with
      | sl _ _ _ _ _ _ b m cap _ _ _ _ => exact ⟨.int .i64 len, by simp [Builtin.len_, ht, hl, run_underlying' P w t _ hu, goInt], .int _ _⟩
    · cases h
  · cases h

theorem evMin2_run {P : Program} {G : Gh} {w : World} {x y r : AV} {a b : Value} (hx : VR G x a) (hy : VR G y b) (h : evMin2 x y = some r) : ∃ v, (Builtin.min2 a b).run P w = .ok v w ∧ VR G r v := by
  unfold evMin2 at h
  split at h
  · split at h
    · rename_i hk
      subst hk
      cases h
      rw [hx.inv_int, hy.inv_int]
      exact ⟨_, rfl, .int _ _⟩
    · cases h
  · cases h
theorem evMax2_run {P : Program} {G : Gh} {w : World} {x y r : AV} {a b : Value} (hx : VR G x a) (hy : VR G y b) (h : evMax2 x y = some r) : ∃ v, (Builtin.max2 a b).run P w = .ok v w ∧ VR G r v := by
  unfold evMax2 at h
  split at h
  · split at h
    · rename_i hk
      subst hk
      cases h
      rw [hx.inv_int, hy.inv_int]
      exact ⟨_, rfl, .int _ _⟩
    · cases h
  · cases h

theorem intQ_spec {P : Program} {t : TypeId} {k : IntKind} (h : intQ P t = some k) : P.underlying t = some (.int k) := by
  unfold intQ at h; split at h
  · cases h; assumption
  · cases h
theorem strQ_spec {P : Program} {t : TypeId} (h : strQ P t = true) : P.underlying t = some .string := by
  unfold strQ at h; split at h
  · assumption
  · cases h
theorem sliceQ_spec {P : Program} {t e : TypeId} (h : sliceQ P t = some e) : P.underlying t = some (.slice e) := by
  unfold sliceQ at h; split at h
  · cases h; assumption
  · cases h
theorem arrQ_spec {P : Program} {t e : TypeId} {n : Nat} (h : arrQ P t = some (n, e)) : P.underlying t = some (.array n e) := by
  unfold arrQ at h; split at h
  · cases h; assumption
  · cases h

/-- bytes in a row -/
theorem bytesOf_vals {G : Gh} {es : List AV} {l : List UInt8} (h : bytesOf es = some l) : flatQ es = some es ∧ l.length = es.length ∧ ∀ vs, VRL G es vs → ∃ ns : List Int, vs = ns.map (Value.int .u8) ∧ ns.map (fun n => UInt8.ofNat n.toNat) = l := by
  induction es generalizing l with
  | nil =>
    cases h
    exact ⟨rfl, rfl, fun vs hv => by cases hv; exact ⟨[], rfl, rfl⟩⟩
  | cons e es ih =>
    cases e <;> (try (simp [bytesOf] at h; done))
    rename_i k n
    cases k <;> (try (simp [bytesOf] at h; done))
    simp only [bytesOf] at h
    split at h
    · rename_i r hr
      cases h
      obtain ⟨h1, h2, h3⟩ := ih hr
      refine ⟨by simp [flatQ, AV.cells?, h1], by simp [h2], fun vs hv => ?_⟩
      cases hv with
      | cons _ v _ m hv hm =>
        obtain ⟨ns, rfl, rfl⟩ := h3 m hm
        rw [hv.inv_int]
        exact ⟨n :: ns, rfl, rfl⟩
    · cases h

theorem foldl_push : ∀ (ns : List Int) (s : ByteArray), (ns.foldl (fun r n => r.push (UInt8.ofNat n.toNat)) s).data.toList = s.data.toList ++ ns.map (fun n => UInt8.ofNat n.toNat)
  | [], s => by simp
  | n :: ns, s => by
    rw [List.foldl_cons, foldl_push ns]
    simp

theorem flat_bytes {es : List AV} (h : flatQ es = some es) {w0 : World} {B : Nat} {G : Gh} {S : St} {w : World} (hi : Inv w0 B G S w) {fl : List AV} {b o : Nat} (hf : flatQ es = some fl) (hv : VRI G fl b o) :
    ∃ vs, VRL G es vs ∧ ∀ j v, vs[j]? = some v → w.cell? ⟨b, o + j, none⟩ = some v := by
  rw [h] at hf
  cases hf
  obtain ⟨vs, h1, h2⟩ := hv.vals
  exact ⟨vs, h1, fun j v hj => hi.imm _ _ _ (h2 j v hj)⟩

theorem evConv_run {P : Program} {w0 : World} {B : Nat} {G : Gh} {S : St} {w : World} (hi : Inv w0 B G S w) {s d : TypeId} {x r : AV} {a : Value} (hx : VR G x a) (h : evConv P s d x = some r) :
    ∃ v, (convert s d a).run P w = .ok v w ∧ VR G r v := by
  unfold evConv at h
  split at h
  · rename_i k n
    split at h
    · rename_i k1 k2 h1 h2
      cases h
      rw [hx.inv_int]
      exact ⟨_, by simp [convert, run_underlying' P w s _ (intQ_spec h1), run_underlying' P w d _ (intQ_spec h2), Conv.intToInt], .int _ _⟩
    · cases h
  · rename_i l
    split at h
    · rename_i hc
      cases h
      obtain ⟨p, rfl, rfl⟩ := hx.inv_str
      exact ⟨_, by simp [convert, run_underlying' P w s _ (strQ_spec hc.1), run_underlying' P w d _ (strQ_spec hc.2)], .str _⟩
    · cases h
  · rename_i es tok
    split at h
    · rename_i e he
      split at h
      · rename_i hc
        split at h
        · rename_i l hl
          cases h
          obtain ⟨h1, h2, h3⟩ := bytesOf_vals (G := G) hl
          have hs := sliceQ_spec he
          have hd := strQ_spec hc.2
          have hu := intQ_spec hc.1
          cases hx with
          | nils _ ad _ =>
            simp [bytesOf] at hl
            subst hl
            refine ⟨.string .empty, ?_, str_VR rfl⟩
            rw [run_convert_bytes_string w s d e ad 0 0 hs hu hd]
            cases ad with
            | none => rfl
            | some a => simp [Conv.bytesToString, run_loadCells_zero]
          | slice _ _ fl b o cap sz k1 k2 k3 k4 k5 =>
            obtain ⟨vs, v1, v2⟩ := flat_bytes h1 hi k2 k3
            obtain ⟨ns, rfl, rfl⟩ := h3 vs v1
            have hlen := v1.length
            rw [run_convert_bytes_string w s d e _ _ _ hs hu hd]
            have hc := run_loadCells_at P w b o _ v2
            rw [hlen] at hc
            exact ⟨_, run_bytesToString w ⟨b, o, none⟩ es.length cap ns hc, str_VR (by rw [foldl_push]; rfl)⟩
        · cases h
      · cases h
    · cases h
  · cases h

theorem fieldQ_spec {P : Program} {t : TypeId} {f off sz : Nat} {ag : Bool} (h : fieldQ P t f = some (off, sz, ag)) :
    ∃ fs fd, P.underlying t = some (.struct fs) ∧ fs[f]? = some fd ∧ (P.underlying fd.type).isSome ∧ P.cellsOf fd.type = sz ∧ sz ≠ 0 ∧ fd.offset = off ∧ aggQ P fd.type = ag := by
  unfold fieldQ at h
  split at h
  · rename_i fs hu
    split at h
    · rename_i fd hf
      split at h
      · rename_i hc
        cases h
        exact ⟨fs, fd, hu, hf, hc.1, rfl, hc.2, rfl, rfl⟩
      · cases h
    · cases h
  · cases h

theorem run_part {P : Program} {G : Gh} {w : World} {t : TypeId} {cs : List AV} {vs : Array Value} {off : Nat} {r : AV} (hu : (P.underlying t).isSome) (hv : VRL G cs vs.toList)
    (h : rdc (aggQ P t) (P.cellsOf t) (cs.drop off) = some r) : ∃ v, (part t vs off).run P w = .ok v w ∧ VR G r v := by
  obtain ⟨i, hi⟩ := info_of_underlying hu
  unfold rdc at h
  unfold part
  simp only [Sem.run_bind, run_isAgg' P w t hu, Result.andThen_ok]
  cases ha : aggQ P t with
  | true =>
    simp only [ha, if_true] at h
    split at h
    · cases h
      simp only [if_true, Sem.run_bind, run_sizeOf' P w t i hi, Result.andThen_ok, Sem.run_pure]
      refine ⟨_, rfl, .agg _ _ ?_⟩
      have := (hv.drop off).take (P.cellsOf t)
      simpa [Array.toList_extract, List.extract_eq_take_drop, List.take_drop] using this
    · cases h
  | false =>
    simp only [ha, Bool.false_eq_true, if_false] at h
    simp at h
    obtain ⟨v, h1, h2⟩ := hv.get h
    simp at h1
    exact ⟨v, by simp [h1], h2⟩

theorem evField_run {P : Program} {G : Gh} {w : World} {t : TypeId} {x r : AV} {a : Value} {f : Nat} (hx : VR G x a) (h : evField P t x f = some r) : ∃ v, (Instr.field t a f).run P w = .ok v w ∧ VR G r v := by
  unfold evField at h
  split at h
  · rename_i off sz ag cs hf
    obtain ⟨fs, fd, h1, h2, h3, h4, h5, h6, h7⟩ := fieldQ_spec hf
    cases hx with
    | agg _ vs hv =>
      subst h4 h6 h7
      obtain ⟨v, e1, e2⟩ := run_part (P := P) (w := w) h3 hv h
      exact ⟨v, by simp [Instr.field, run_underlying' P w t _ h1, h2, asAgg, e1], e2⟩
  · cases h

theorem evFieldAddr_run {P : Program} {G : Gh} {w : World} {t : TypeId} {x r : AV} {a : Value} {f : Nat} (hx : VR G x a) (h : evFieldAddr P t x f = some r) : ∃ v, (Instr.fieldAt t a f).run P w = .ok v w ∧ VR G r v := by
  unfold evFieldAddr at h
  split at h
  · rename_i off sz ag hf
    obtain ⟨fs, fd, h1, h2, h3, h4, h5, h6, h7⟩ := fieldQ_spec hf
    obtain ⟨i, hi⟩ := info_of_underlying h3
    have run : ∀ b o, (Instr.fieldAt t (.pointer (some ⟨b, o, none⟩)) f).run P w = .ok (.pointer (some ⟨b, o + off, none⟩)) w := fun b o => by
      simp [Instr.fieldAt, run_underlying' P w t _ h1, h2, Instr.sureAddr, fieldPlace, run_sizeOf' P w fd.type i hi, h4, h5, h6, add_none]
    split at h
    · cases h
      obtain ⟨b, o, rfl, hv⟩ := hx.inv_ref
      exact ⟨_, run b o, .ref _ _ _ (hv.drop' off)⟩
    · cases h
      obtain ⟨b, rfl, hb⟩ := hx.inv_loc
      exact ⟨_, run b _, .loc _ _ _ _ _ hb⟩
    · cases h
      obtain ⟨b, rfl, hb⟩ := hx.inv_ptr
      exact ⟨_, run b _, .ptr _ _ _ hb⟩
    · cases h
      obtain ⟨b, m, rfl, hb⟩ := hx.inv_rp
      exact ⟨_, run b _, .rp _ _ _ _ _ hb⟩
    · cases h
  · cases h

theorem evIndex_run {P : Program} {G : Gh} {w : World} {t : TypeId} {x i r : AV} {a j : Value} (hx : VR G x a) (hj : VR G i j) (h : evIndex P t x i = some r) : ∃ v, (Instr.index t a j).run P w = .ok v w ∧ VR G r v := by
  unfold evIndex at h
  split at h
  · rename_i k n
    rw [hj.inv_int]
    split at h
    · rename_i s
      obtain ⟨p, rfl, rfl⟩ := hx.inv_str
      split at h
      · rename_i hc
        split at h
        · rename_i b hb
          cases h
          refine ⟨.int .u8 b.toNat, ?_, .int _ _⟩
          have e : p[n.toNat]? = some b := by
            have hlt : n.toNat < p.data.toList.length := (List.getElem?_eq_some_iff.1 hb).1
            have hlt' : n.toNat < p.size := by rw [Array.length_toList] at hlt; exact hlt
            rw [getElem?_pos p n.toNat hlt']
            congr 1
            have := (List.getElem?_eq_some_iff.1 hb).2
            rw [← this]
            simp [ByteArray.getElem_eq_getElem_data]
          simp [Instr.index, asIntOf, run_underlying' P w t _ (strQ_spec hc.1), hc.2, e]
        · cases h
      · cases h
    · rename_i cs
      cases hx with
      | agg _ vs hv =>
        split at h
        · rename_i len e he
          split at h
          · rename_i hc
            obtain ⟨ii, hii⟩ := info_of_underlying hc.2.2
            obtain ⟨v, e1, e2⟩ := run_part (P := P) (w := w) hc.2.2 hv h
            exact ⟨v, by simp [Instr.index, asIntOf, run_underlying' P w t _ (arrQ_spec he), hc.1, hc.2.1, run_sizeOf' P w e ii hii, e1], e2⟩
          · cases h
        · cases h
    · cases h
  · cases h

theorem nth_spec {l : List AV} {n : Int} {a : AV} (h : nth l n = some a) : 0 ≤ n ∧ l[n.toNat]? = some a := by
  unfold nth at h; split at h
  · exact ⟨‹_›, h⟩
  · cases h

theorem evIndexAddr_run {P : Program} {G : Gh} {w : World} {t : TypeId} {x i r : AV} {a j : Value} (hx : VR G x a) (hj : VR G i j) (h : evIndexAddr P t x i = some r) : ∃ v, (Instr.indexAt t a j).run P w = .ok v w ∧ VR G r v := by
  unfold evIndexAddr at h
  split at h
  · rename_i k n
    rw [hj.inv_int]
    split at h
    · rename_i es tok
      split at h
      · rename_i e he
        split at h
        · rename_i v hv
          split at h
          · rename_i cs hcs
            split at h
            · rename_i hc
              cases h
              obtain ⟨h0, hn⟩ := nth_spec hv
              obtain ⟨ii, hii⟩ := Option.isSome_iff_exists.1 hc.2
              have hlt := (List.getElem?_eq_some_iff.1 hn).1
              cases hx with
              | nils _ _ _ => simp at hlt
              | slice _ _ fl b o cap sz k1 k2 k3 k4 k5 =>
                have hsz : sz = P.cellsOf e := by
                  obtain ⟨c, c1, c2⟩ := sizesOk_mem.1 k5 v (List.mem_of_getElem? hn)
                  rw [hcs] at c1; cases c1; omega
                subst hsz
                refine ⟨_, ?_, .ref _ _ _ (VRI.elem k2 k5 k3 hn hcs)⟩
                have hn2 : n < (es.length : Int) := by omega
                simp [Instr.indexAt, asIntOf, run_underlying' P w t _ (sliceQ_spec he), h0, hn2, run_sizeOf' P w e ii hii, add_none]
            · cases h
          · cases h
        · cases h
      · cases h
    · rename_i id ver off len lim sz
      split at h
      · rename_i e he
        split at h
        · rename_i hc
          cases h
          obtain ⟨c1, c2, rfl, c4⟩ := hc
          obtain ⟨ii, hii⟩ := Option.isSome_iff_exists.1 c4
          cases hx with
          | sl _ _ _ _ _ _ b m cap h1 h2 h3 h4 =>
            refine ⟨_, ?_, .rp _ _ _ _ _ h1⟩
            simp [Instr.indexAt, asIntOf, run_underlying' P w t _ (sliceQ_spec he), c1, c2, run_sizeOf' P w e ii hii, add_none]
        · cases h
      · cases h
    · split at h
      · rename_i len e he
        split at h
        · rename_i hc
          obtain ⟨ii, hii⟩ := Option.isSome_iff_exists.1 hc.2.2
          have run : ∀ b o, (Instr.indexAt t (.pointer (some ⟨b, o, none⟩)) (.int k n)).run P w = .ok (.pointer (some ⟨b, o + n.toNat * P.cellsOf e, none⟩)) w := fun b o => by
            simp [Instr.indexAt, asIntOf, run_underlying' P w t _ (arrQ_spec he), hc.1, hc.2.1, run_sizeOf' P w e ii hii, add_none, Instr.sureAddr]
          split at h
          · cases h
            obtain ⟨b, o, rfl, hv⟩ := hx.inv_ref
            exact ⟨_, run b o, .ref _ _ _ (hv.drop' _)⟩
          · cases h
            obtain ⟨b, rfl, hb⟩ := hx.inv_loc
            exact ⟨_, run b _, .loc _ _ _ _ _ hb⟩
          · cases h
            obtain ⟨b, rfl, hb⟩ := hx.inv_ptr
            exact ⟨_, run b _, .ptr _ _ _ hb⟩
          · cases h
            obtain ⟨b, m, rfl, hb⟩ := hx.inv_rp
            exact ⟨_, run b _, .rp _ _ _ _ _ hb⟩
          · cases h
        · cases h
      · cases h
  · cases h

theorem sizesOk_take {n k : Nat} {l : List AV} (h : sizesOk n l = true) : sizesOk n (l.take k) = true :=
  sizesOk_mem.2 fun e he => sizesOk_mem.1 h e (List.mem_of_mem_take he)
theorem sizesOk_drop {n k : Nat} {l : List AV} (h : sizesOk n l = true) : sizesOk n (l.drop k) = true :=
  sizesOk_mem.2 fun e he => sizesOk_mem.1 h e (List.mem_of_mem_drop he)
end Go.Proofs.YtcpoinfdnimanaaGreatDoor.AE
/- Slices, structs and appends: the evaluator's are the model's. No condition. -/
namespace Go.Proofs.YtcpoinfdnimanaaGreatDoor.AE
set_option linter.unusedVariables false
set_option linter.unusedSimpArgs false
open Go Go.RowKit

/-- an optional operand -/
def OVR (G : Gh) : Option AV → Option Value → Prop
  | none, none => True
  | some a, some v => VR G a v
  | _, _ => False

theorem run_sliceBound {P : Program} {w : World} {k : IntKind} {i : Int} {y : Nat} (c : BoundsCode) (h0 : 0 ≤ i) (h1 : i ≤ y) : (Instr.sliceBound (.int k i) y c).run P w = .ok i.toNat w := by
  simp [Instr.sliceBound, asIntOf, h0, h1]

/-- a slice's bounds -/
theorem run_sliceB {P : Program} {G : Gh} {w : World} {len cap : Nat} {lo hi : Option AV} {lo' hi' : Option Value} {kh kl : IntKind} {hv lv : Int}
    (e1 : (match hi with | none => some (.int .i64 len) | some h => some h : Option AV) = some (.int kh hv)) (e2 : (match lo with | none => some (.int .i64 0) | some l => some l : Option AV) = some (.int kl lv))
    (hlo : OVR G lo lo') (hhi : OVR G hi hi') (hle : len ≤ cap) (c1 : 0 ≤ hv) (c2 : hv ≤ cap) (c3 : 0 ≤ lv) (c4 : lv ≤ hv) : (Instr.sliceBounds true len cap lo' hi' none).run P w = .ok (lv.toNat, hv.toNat, cap) w := by
  unfold Instr.sliceBounds
  cases hi with
  | none =>
    cases hi' with
    | some v => exact hhi.elim
    | none =>
      simp at e1
      cases lo with
      | none =>
        cases lo' with
        | some v => exact hlo.elim
        | none => simp at e2; obtain ⟨_, rfl⟩ := e1; obtain ⟨_, rfl⟩ := e2; simp
      | some l =>
        cases lo' with
        | none => exact hlo.elim
        | some v =>
          simp at e2
          subst e2
          have := VR.inv_int hlo
          subst this
          obtain ⟨_, rfl⟩ := e1
          simp [run_sliceBound (P := P) (w := w) (k := kl) _ c3 (show lv ≤ (len : Int) by omega)]
  | some hh =>
    cases hi' with
    | none => exact hhi.elim
    | some v =>
      simp at e1
      subst e1
      have := VR.inv_int hhi
      subst this
      cases lo with
      | none =>
        cases lo' with
        | some v => exact hlo.elim
        | none => simp at e2; obtain ⟨_, rfl⟩ := e2; simp [run_sliceBound (P := P) (w := w) (k := kh) _ c1 (show hv ≤ (cap : Int) by omega)]
      | some l =>
        cases lo' with
        | none => exact hlo.elim
        | some v =>
          simp at e2
          subst e2
          have := VR.inv_int hlo
          subst this
          simp [run_sliceBound (P := P) (w := w) (k := kh) _ c1 (show hv ≤ (cap : Int) by omega), run_sliceBound (P := P) (w := w) (k := kl) (y := hv.toNat) _ c3 (by omega)]
theorem run_sliceB3 {P : Program} {G : Gh} {w : World} {len cap : Nat} {lo : Option AV} {lo' : Option Value} {kh km : IntKind} {hv mv lv : Int}
    (e2 : (match lo with | none => some 0 | some (.int _ l) => some l | _ => none : Option Int) = some lv)
    (hlo : OVR G lo lo') (c1 : 0 ≤ lv) (c2 : lv ≤ hv) (c3 : hv ≤ mv) (c4 : mv ≤ cap) : (Instr.sliceBounds true len cap lo' (some (.int kh hv)) (some (.int km mv))).run P w = .ok (lv.toNat, hv.toNat, mv.toNat) w := by
  unfold Instr.sliceBounds
  have r1 := run_sliceBound (P := P) (w := w) (k := km) (i := mv) (y := cap) .slice3Acap (by omega) c4
  have r2 := run_sliceBound (P := P) (w := w) (k := kh) (i := hv) (y := mv.toNat) .slice3B (by omega) (by omega)
  cases lo with
  | none =>
    cases lo' with
    | some v => exact hlo.elim
    | none => simp at e2; subst e2; simp [r1, r2]
  | some l =>
    cases lo' with
    | none => exact hlo.elim
    | some v =>
      split at e2
      · rename_i h; cases h
      · rename_i k' l' h
        cases h
        cases e2
        have := VR.inv_int hlo
        subst this
        simp [r1, r2, run_sliceBound (P := P) (w := w) (k := k') (i := lv) (y := hv.toNat) _ c1 (by omega)]
      · cases e2

theorem evSlice_run {P : Program} {G : Gh} {w : World} {t : TypeId} {x r : AV} {a : Value} {lo hi : Option AV} {lo' hi' : Option Value} (hx : VR G x a) (hlo : OVR G lo lo') (hhi : OVR G hi hi') (h : evSlice P t x lo hi = some r) :
    ∃ v, (Instr.sliceAt t a lo' hi' none).run P w = .ok v w ∧ VR G r v := by
  unfold evSlice at h
  split at h
  · rename_i s
    obtain ⟨p, rfl, rfl⟩ := hx.inv_str
    have hlen : p.data.toList.length = p.size := by rw [Array.length_toList]; rfl
    split at h
    · rename_i hs
      have hu := strQ_spec hs
      split at h
      · rename_i kh hv kl lv e1 e2
        split at h
        · rename_i hc
          cases h
          obtain ⟨c1, c2, c3, c4⟩ := hc
          rw [hlen] at c2
          have key : (Instr.sliceBounds false p.size p.size lo' hi' none).run P w = .ok (lv.toNat, hv.toNat, p.size) w := by
            unfold Instr.sliceBounds
            cases hi with
            | none =>
              cases hi' with
              | some v => exact hhi.elim
              | none =>
                simp at e1
                cases lo with
                | none =>
                  cases lo' with
                  | some v => exact hlo.elim
                  | none => simp at e2; obtain ⟨_, rfl⟩ := e1; obtain ⟨_, rfl⟩ := e2; simp [hlen]
                | some l =>
                  cases lo' with
                  | none => exact hlo.elim
                  | some v =>
                    simp at e2
                    subst e2
                    have := VR.inv_int hlo
                    subst this
                    obtain ⟨_, rfl⟩ := e1
                    simp [run_sliceBound (P := P) (w := w) (k := kl) _ c3 (show lv ≤ (p.size : Int) by omega), hlen]
            | some hh =>
              cases hi' with
              | none => exact hhi.elim
              | some v =>
                simp at e1
                subst e1
                have := VR.inv_int hhi
                subst this
                cases lo with
                | none =>
                  cases lo' with
                  | some v => exact hlo.elim
                  | none => simp at e2; obtain ⟨_, rfl⟩ := e2; simp [run_sliceBound (P := P) (w := w) (k := kh) _ c1 c2]
                | some l =>
                  cases lo' with
                  | none => exact hlo.elim
                  | some v =>
                    simp at e2
                    subst e2
                    have := VR.inv_int hlo
                    subst this
                    simp [run_sliceBound (P := P) (w := w) (k := kh) _ c1 c2, run_sliceBound (P := P) (w := w) (k := kl) (y := hv.toNat) _ c3 (by omega)]
          refine ⟨.string (p.extract lv.toNat hv.toNat), ?_, str_VR ?_⟩
          · simp [Instr.sliceAt, Instr.slice, run_underlying' P w t _ hu, key]
          · simp [ByteArray.data_extract, List.extract_eq_take_drop, List.drop_take]
        · cases h
      · cases h
    · cases h
  · rename_i es tok
    split at h
    · cases h
    · rename_i e he
      have hu := sliceQ_spec he
      split at h
      · rename_i hinf
        obtain ⟨hinf, hso⟩ := hinf
        obtain ⟨ii, hii⟩ := Option.isSome_iff_exists.1 hinf
        split at h
        · rename_i kh hv kl lv e1 e2
          split at h
          · rename_i hc
            cases h
            obtain ⟨c1, c2, c3, c4⟩ := hc
            obtain ⟨ad, cap, rfl, hcap⟩ : ∃ ad cap, a = .slice ad es.length cap ∧ es.length ≤ cap := by
              cases hx with
              | nils _ ad _ => exact ⟨ad, 0, rfl, Nat.le_refl _⟩
              | slice _ _ fl b o cap sz k1 k2 k3 k4 k5 => exact ⟨_, cap, rfl, k1⟩
            have key : (Instr.sliceBounds true es.length cap lo' hi' none).run P w = .ok (lv.toNat, hv.toNat, cap) w := by
              unfold Instr.sliceBounds
              cases hi with
              | none =>
                cases hi' with
                | some v => exact hhi.elim
                | none =>
                  simp at e1
                  cases lo with
                  | none =>
                    cases lo' with
                    | some v => exact hlo.elim
                    | none => simp at e2; obtain ⟨_, rfl⟩ := e1; obtain ⟨_, rfl⟩ := e2; simp
                  | some l =>
                    cases lo' with
                    | none => exact hlo.elim
                    | some v =>
                      simp at e2
                      subst e2
                      have := VR.inv_int hlo
                      subst this
                      obtain ⟨_, rfl⟩ := e1
                      simp [run_sliceBound (P := P) (w := w) (k := kl) _ c3 (show lv ≤ (es.length : Int) by omega)]
              | some hh =>
                cases hi' with
                | none => exact hhi.elim
                | some v =>
                  simp at e1
                  subst e1
                  have := VR.inv_int hhi
                  subst this
                  cases lo with
                  | none =>
                    cases lo' with
                    | some v => exact hlo.elim
                    | none => simp at e2; obtain ⟨_, rfl⟩ := e2; simp [run_sliceBound (P := P) (w := w) (k := kh) _ c1 (show hv ≤ (cap : Int) by omega)]
                  | some l =>
                    cases lo' with
                    | none => exact hlo.elim
                    | some v =>
                      simp at e2
                      subst e2
                      have := VR.inv_int hlo
                      subst this
                      simp [run_sliceBound (P := P) (w := w) (k := kh) _ c1 (show hv ≤ (cap : Int) by omega), run_sliceBound (P := P) (w := w) (k := kl) (y := hv.toNat) _ c3 (by omega)]
            refine ⟨.slice (if cap = lv.toNat then ad else ad.map (·.add (lv.toNat * P.cellsOf e))) (hv.toNat - lv.toNat) (cap - lv.toNat), ?_, ?_⟩
            · simp [Instr.sliceAt, Instr.slice, run_underlying' P w t _ hu, key, run_sizeOf' P w e ii hii]
            · have hl : ((es.take hv.toNat).drop lv.toNat).length = hv.toNat - lv.toNat := by simp; omega
              cases hx with
              | nils _ ad htok =>
                simp at c2 c4
                have z1 : hv.toNat = 0 := by omega
                have z2 : lv.toNat = 0 := by omega
                rw [z1, z2]
                simp
                refine .nils _ _ (fun t p => ?_) (fun q => ?_)
                · cases hi <;> cases tok <;> simp
                · cases hi <;> cases tok <;> simp
              | slice _ _ fl b o cap sz k1 k2 k3 k4 k5 =>
                by_cases hcl : cap = lv.toNat
                · have z : (es.take hv.toNat).drop lv.toNat = [] := by
                    apply List.eq_nil_of_length_eq_zero; omega
                  have z2 : hv.toNat - lv.toNat = 0 := by omega
                  rw [z, z2, if_pos hcl]
                  refine .slice [] _ [] b o (cap - lv.toNat) sz (Nat.zero_le _) rfl (.nil _ _) ?_ rfl
                  cases hi <;> cases tok <;> simp only [TokR] <;> simp
                  all_goals (simp only [TokR] at k4; try omega)
                · rw [if_neg hcl]
                  simp only [Option.map_some, add_none]
                  rw [← hl]
                  obtain ⟨x, y, f1, f2, f3⟩ := flatQ_split (a := es.take hv.toNat) (b := es.drop hv.toNat) (by rw [List.take_append_drop]; exact k2)
                  obtain ⟨x1, x2, g1, g2, g3⟩ := flatQ_split (a := (es.take hv.toNat).take lv.toNat) (b := (es.take hv.toNat).drop lv.toNat) (by rw [List.take_append_drop]; exact f1)
                  subst f3 g3
                  have hx1 : x1.length = lv.toNat * P.cellsOf e := by
                    rw [flatQ_len' g1 (sizesOk_take (sizesOk_take hso))]
                    congr 1
                    simp; omega
                  refine .slice _ _ x2 b _ (cap - lv.toNat) (P.cellsOf e) (by rw [hl]; omega) g2 (by rw [← hx1]; exact k3.left.right) ?_ (sizesOk_drop (sizesOk_take hso))
                  cases hi <;> cases tok <;> simp only [TokR]
                  all_goals (simp only [TokR] at k4; try omega)
                  simp at e1
                  obtain ⟨_, rfl⟩ := e1
                  omega
          · cases h
        · cases h
      · cases h
  · rename_i id ver off len lim sz
    split at h
    · cases h
    · rename_i e he
      have hu := sliceQ_spec he
      split at h
      · rename_i hinf
        obtain ⟨hinf, rfl⟩ := hinf
        obtain ⟨ii, hii⟩ := Option.isSome_iff_exists.1 hinf
        split at h
        · rename_i kh hv kl lv e1 e2
          split at h
          · rename_i hc
            obtain ⟨c1, c2, c3, c4⟩ := hc
            cases hx with
            | sl _ _ _ _ _ _ b m cap h1 h2 h3 h4 =>
              have key := run_sliceB (P := P) (w := w) (len := len) (cap := cap) e1 e2 hlo hhi (by omega) c1 (by omega) c3 c4
              have run : (Instr.sliceAt t (.slice (some ⟨b, off, none⟩) len cap) lo' hi' none).run P w = .ok (.slice (if cap = lv.toNat then (some ⟨b, off, none⟩) else some ⟨b, off + lv.toNat * P.cellsOf e, none⟩) (hv.toNat - lv.toNat) (cap - lv.toNat)) w := by
                simp [Instr.sliceAt, Instr.slice, run_underlying' P w t _ hu, key, run_sizeOf' P w e ii hii, add_none]
              refine ⟨_, run, ?_⟩
              split at h
              · rename_i hlt
                cases h
                rw [if_neg (by omega)]
                refine .sl _ _ _ _ _ _ b m _ h1 (by omega) (by omega) ?_
                rw [Nat.sub_mul]
                have : lv.toNat * P.cellsOf e ≤ cap * P.cellsOf e := Nat.mul_le_mul_right _ (by omega)
                omega
              · rename_i hge
                cases h
                have z : hv.toNat - lv.toNat = 0 := by omega
                rw [z]
                split
                · exact .slice [] _ [] b _ _ (P.cellsOf e) (Nat.zero_le _) rfl (.nil _ _) trivial rfl
                · exact .slice [] _ [] b _ _ (P.cellsOf e) (Nat.zero_le _) rfl (.nil _ _) trivial rfl
          · cases h
        · cases h
      · cases h
  · cases h

theorem evSlice3_run {P : Program} {G : Gh} {w : World} {t : TypeId} {x r mx : AV} {a mv' : Value} {lo hi : Option AV} {lo' hi' : Option Value} (hx : VR G x a) (hlo : OVR G lo lo') (hhi : OVR G hi hi') (hm : VR G mx mv') (h : evSlice3 P t x lo hi (some mx) = some r) :
    ∃ v, (Instr.sliceAt t a lo' hi' (some mv')).run P w = .ok v w ∧ VR G r v := by
  unfold evSlice3 at h
  split at h
  · rename_i kh hv km mv e3
    cases e3
    have hmv := VR.inv_int hm
    subst hmv
    cases hi' with
    | none => exact hhi.elim
    | some hi' =>
      have := VR.inv_int hhi
      subst this
      split at h
      · cases h
      · rename_i lv e2
        split at h
        · rename_i hc
          obtain ⟨c1, c2, c3⟩ := hc
          split at h
          · rename_i es tok
            split at h
            · cases h
            · rename_i e he
              have hu := sliceQ_spec he
              split at h
              · rename_i hq
                obtain ⟨q1, q2, q3⟩ := hq
                cases h
                obtain ⟨ii, hii⟩ := Option.isSome_iff_exists.1 q1
                obtain ⟨ad, cap, rfl, hcap⟩ : ∃ ad cap, a = .slice ad es.length cap ∧ es.length ≤ cap := by
                  cases hx with
                  | nils _ ad _ => exact ⟨ad, 0, rfl, Nat.le_refl _⟩
                  | slice _ _ fl b o cap sz k1 k2 k3 k4 k5 => exact ⟨_, cap, rfl, k1⟩
                have key := run_sliceB3 (P := P) (w := w) (len := es.length) (cap := cap) (kh := kh) (km := km) e2 hlo c1 c2 c3 (by omega)
                refine ⟨.slice (if mv.toNat = lv.toNat then ad else ad.map (·.add (lv.toNat * P.cellsOf e))) (hv.toNat - lv.toNat) (mv.toNat - lv.toNat), ?_, ?_⟩
                · simp [Instr.sliceAt, Instr.slice, run_underlying' P w t _ hu, key, run_sizeOf' P w e ii hii]
                · have hl : ((es.take hv.toNat).drop lv.toNat).length = hv.toNat - lv.toNat := by simp; omega
                  have htk : ∀ (z : List AV) (fl : List AV) (b o cap : Nat), z.length = hv.toNat - lv.toNat → cap = mv.toNat - lv.toNat → TokR G (if hv = mv then .clip else .non) z fl b o cap := fun z fl b o cap h1 h2 => by
                    split
                    · simp only [TokR]; omega
                    · trivial
                  cases hx with
                  | nils _ ad htok =>
                    simp at q3
                    have z1 : hv.toNat = 0 := by omega
                    have z2 : lv.toNat = 0 := by omega
                    have z3 : mv.toNat = 0 := by omega
                    rw [z1, z2, z3]
                    simp
                    refine .nils _ _ (fun t p => ?_) (fun q => ?_)
                    · split <;> simp
                    · split <;> simp
                  | slice _ _ fl b o cap sz k1 k2 k3 k4 k5 =>
                    by_cases hcl : mv.toNat = lv.toNat
                    · have z : (es.take hv.toNat).drop lv.toNat = [] := by
                        apply List.eq_nil_of_length_eq_zero; omega
                      have z2 : hv.toNat - lv.toNat = 0 := by omega
                      rw [z, z2, if_pos hcl]
                      exact .slice [] _ [] b o (mv.toNat - lv.toNat) sz (Nat.zero_le _) rfl (.nil _ _) (htk [] _ _ _ _ (by simp; omega) rfl) rfl
                    · rw [if_neg hcl]
                      simp only [Option.map_some, add_none]
                      rw [← hl]
                      obtain ⟨x, y, f1, f2, f3⟩ := flatQ_split (a := es.take hv.toNat) (b := es.drop hv.toNat) (by rw [List.take_append_drop]; exact k2)
                      obtain ⟨x1, x2, g1, g2, g3⟩ := flatQ_split (a := (es.take hv.toNat).take lv.toNat) (b := (es.take hv.toNat).drop lv.toNat) (by rw [List.take_append_drop]; exact f1)
                      subst f3 g3
                      have hx1 : x1.length = lv.toNat * P.cellsOf e := by
                        rw [flatQ_len' g1 (sizesOk_take (sizesOk_take q2))]
                        congr 1
                        simp; omega
                      exact .slice _ _ x2 b _ (mv.toNat - lv.toNat) (P.cellsOf e) (by rw [hl]; omega) g2 (by rw [← hx1]; exact k3.left.right) (htk _ _ _ _ _ hl rfl) (sizesOk_drop (sizesOk_take q2))
              · cases h
          · rename_i id ver off len lim sz
            split at h
            · cases h
            · rename_i e he
              have hu := sliceQ_spec he
              split at h
              · rename_i hq
                obtain ⟨q1, rfl, q3⟩ := hq
                obtain ⟨ii, hii⟩ := Option.isSome_iff_exists.1 q1
                cases hx with
                | sl _ _ _ _ _ _ b m cap h1 h2 h3 h4 =>
                  have key := run_sliceB3 (P := P) (w := w) (len := len) (cap := cap) (kh := kh) (km := km) e2 hlo c1 c2 c3 (by omega)
                  have run : (Instr.sliceAt t (.slice (some ⟨b, off, none⟩) len cap) lo' (some (.int kh hv)) (some (.int km mv))).run P w = .ok (.slice (if mv.toNat = lv.toNat then (some ⟨b, off, none⟩) else some ⟨b, off + lv.toNat * P.cellsOf e, none⟩) (hv.toNat - lv.toNat) (mv.toNat - lv.toNat)) w := by
                    simp [Instr.sliceAt, Instr.slice, run_underlying' P w t _ hu, key, run_sizeOf' P w e ii hii, add_none]
                  refine ⟨_, run, ?_⟩
                  split at h
                  · rename_i hlt
                    cases h
                    rw [if_neg (by omega)]
                    refine .sl _ _ _ _ _ _ b m _ h1 (by omega) (Nat.le_refl _) ?_
                    rw [Nat.sub_mul]
                    have g1 : lv.toNat * P.cellsOf e ≤ mv.toNat * P.cellsOf e := Nat.mul_le_mul_right _ (by omega)
                    have g2 : mv.toNat * P.cellsOf e ≤ cap * P.cellsOf e := Nat.mul_le_mul_right _ (by omega)
                    omega
                  · rename_i hge
                    cases h
                    have z : hv.toNat - lv.toNat = 0 := by omega
                    have z2 : mv.toNat - lv.toNat = 0 := by omega
                    rw [z, z2]
                    split
                    · exact .slice [] _ [] b _ _ (P.cellsOf e) (Nat.zero_le _) rfl (.nil _ _) rfl rfl
                    · exact .slice [] _ [] b _ _ (P.cellsOf e) (Nat.zero_le _) rfl (.nil _ _) rfl rfl
              · cases h
          · cases h
        · cases h
  · cases h
end Go.Proofs.YtcpoinfdnimanaaGreatDoor.AE
