/- The program's data, as plain data. -/
import Derived.Test.YtmcmaklilfgdiaaGreatSk
import Derived.Test.YtmcmaklilfgdiaaGreatProg
import Derived.KernelRfl
namespace Go.Proofs.YtmcmaklilfgdiaaGreat
open Go Go.RowKit Ev

inductive Instr where
  | mk (op ty a b bits : Int) (list : List Int) (then_ else_ : List Instr) (has : Bool)
namespace Instr
def op : Instr → Int | mk x _ _ _ _ _ _ _ _ => x
def ty : Instr → Int | mk _ x _ _ _ _ _ _ _ => x
def a : Instr → Int | mk _ _ x _ _ _ _ _ _ => x
def b : Instr → Int | mk _ _ _ x _ _ _ _ _ => x
def bits : Instr → Int | mk _ _ _ _ x _ _ _ _ => x
def list : Instr → List Int | mk _ _ _ _ _ x _ _ _ => x
def then_ : Instr → List Instr | mk _ _ _ _ _ _ x _ _ => x
def else_ : Instr → List Instr | mk _ _ _ _ _ _ _ x _ => x
def has : Instr → Bool | mk _ _ _ _ _ _ _ _ x => x
end Instr

abbrev nI (n : Nat) : Int := n
abbrev u8 (n : Int) : Value := .int .u8 n
abbrev u32 (n : Int) : Value := .int .u32 n
abbrev u64 (n : Int) : Value := .int .u64 n
abbrev i64 (n : Int) : Value := .int .i64 n
abbrev encL {α : Type} (sz : Nat) (enc : α → Value) (l : List α) : Value := lstV sz l.length (l.map enc)
abbrev bytesV (l : List Int) : Value := encL 1 u8 l
abbrev words (l : List Int) : Value := encL 1 u32 l

mutual
def encI : Instr → Value
  | .mk op ty a b bits list t e has => .agg ⟨[i64 op, u8 ty, u32 a, u32 b, u64 bits, words list, lstV 9 t.length (encIs t), lstV 9 e.length (encIs e), .bool has]⟩
def encIs : List Instr → List Value
  | [] => []
  | x :: l => encI x :: encIs l
end
theorem encIs_eq : ∀ l : List Instr, encIs l = l.map encI
  | [] => by rw [encIs]; rfl
  | x :: l => by rw [encIs, encIs_eq l]; rfl
def opnI (x : Instr) : Value := .agg ⟨[i64 x.op, u8 x.ty, u32 x.a, u32 x.b, u64 x.bits, words x.list, encL 9 encI x.then_, encL 9 encI x.else_, .bool x.has]⟩
theorem encI_eq (x : Instr) : encI x = opnI x := by
  cases x with
  | mk op ty a b bits list t e has => simp only [encI, opnI, encIs_eq, Instr.op, Instr.ty, Instr.a, Instr.b, Instr.bits, Instr.list, Instr.then_, Instr.else_, Instr.has]

structure GFuncType where
  params : List Int
  results : List Int
structure GLimits where
  min : Int
  max : Int
  has : Bool
structure GImport where
  module : ByteArray
  name : ByteArray
  kind : Int
  ty : Int
  limits : GLimits
  value : Int
  mut_ : Bool
structure GExport where
  name : ByteArray
  kind : Int
  index : Int
structure GFn where
  ty : Int
  locals : List Int
  body : List Instr
structure GCell where
  value : Int
  mut_ : Bool
  init : List Instr
structure GElem where
  table : Int
  offset : List Instr
  funcs : List Int
structure GData where
  memory : Int
  offset : List Instr
  bytes : List Int
structure GModule where
  types : List GFuncType
  imports : List GImport
  funcs : List GFn
  tables : List GLimits
  memories : List GLimits
  globals : List GCell
  exports : List GExport
  starts : Bool
  start : Int
  elems : List GElem
  datas : List GData

abbrev encFT (x : GFuncType) : Value := .agg ⟨[bytesV x.params, bytesV x.results]⟩
abbrev encLim (x : GLimits) : Value := .agg ⟨[u32 x.min, u32 x.max, .bool x.has]⟩
abbrev encImp (x : GImport) : Value := .agg ⟨[.string x.module, .string x.name, i64 x.kind, u32 x.ty, u32 x.limits.min, u32 x.limits.max, .bool x.limits.has, u8 x.value, .bool x.mut_]⟩
abbrev encExp (x : GExport) : Value := .agg ⟨[.string x.name, i64 x.kind, u32 x.index]⟩
abbrev encFn (x : GFn) : Value := .agg ⟨[u32 x.ty, bytesV x.locals, encL 9 encI x.body]⟩
abbrev encCell (x : GCell) : Value := .agg ⟨[u8 x.value, .bool x.mut_, encL 9 encI x.init]⟩
abbrev encElem (x : GElem) : Value := .agg ⟨[u32 x.table, encL 9 encI x.offset, words x.funcs]⟩
abbrev encData (x : GData) : Value := .agg ⟨[u32 x.memory, encL 9 encI x.offset, bytesV x.bytes]⟩
abbrev encM (m : GModule) : Value := .agg ⟨[encL 2 encFT m.types, encL 9 encImp m.imports, encL 3 encFn m.funcs, encL 3 encLim m.tables, encL 3 encLim m.memories, encL 3 encCell m.globals, encL 3 encExp m.exports, .bool m.starts, u32 m.start, encL 3 encElem m.elems, encL 3 encData m.datas]⟩

abbrev V0 {γ : Type} (enc : γ → Value) : View := ⟨γ, enc, enc, fun _ => rfl⟩
abbrev vI : View := ⟨Instr, encI, opnI, encI_eq⟩

/-- by a slice's type: its elements -/
def elemV (t : TypeId) : Option View :=
  if t = 61 ∨ t = 77 then some vI
  else if t = 60 then some (V0 u32)
  else if t = 35 then some (V0 u8)
  else if t = 22 ∨ t = 41 then some (V0 encFT)
  else if t = 23 ∨ t = 42 then some (V0 encImp)
  else if t = 24 ∨ t = 43 then some (V0 encFn)
  else if t = 25 ∨ t = 44 then some (V0 encLim)
  else if t = 26 ∨ t = 45 then some (V0 encCell)
  else if t = 27 ∨ t = 46 then some (V0 encExp)
  else if t = 29 ∨ t = 47 then some (V0 encElem)
  else if t = 30 ∨ t = 48 then some (V0 encData)
  else none

abbrev vBool : View := V0 (γ := Bool) .bool
abbrev vInstrs : View := V0 (encL 9 encI)

/-- by a function's number: what it answers -/
def conV (f : FuncId) : Option View :=
  if [6, 7, 15, 16, 17, 11, 12, 28, 29, 30, 31, 32, 33, 34, 35, 36, 37, 38, 39, 40, 41, 42, 43, 44, 45, 94, 95, 52, 106, 107, 96].contains f then some vBool
  else if f = 27 then some vInstrs
  else if f = 26 then some (V0 (encL 3 encLim))
  else if f = 10 then some (V0 encM)
  else none

/-- the package-level variables: none -/
abbrev gs : List ABlk := []

/-- a frame whose other slots are not looked at -/
def slots (n : Nat) (l : List (Nat × Value)) : List Value := (List.range n).map fun i => match l.find? (fun x => Nat.beq x.1 i) with | some x => x.2 | none => undef
def mem (bs : List ABlk) : AH := ⟨bs.length, bs.reverse⟩

/-- the code behind a loop's head, the loop told by its first region -/
def loopIts : Code → Nat → List It → Option (List It)
  | .seq x y, l, k => match loopIts x l (.code y :: k) with
    | some r => some r
    | none => loopIts y l k
  | .cond _ x y, l, k => match loopIts x l k with
    | some r => some r
    | none => loopIts y l k
  | .block id b, l, k => loopIts b l (.blk id :: k)
  | .loop b, l, k => if Nat.beq (headId b) l then some (.code b :: .lp b :: k) else loopIts b l (.lp b :: k)
  | _, _, _ => none
def its (c : Code) (l : Nat) : List It := (loopIts c l []).getD []
def bodyOf (f : Func) : Code := match f.body with | some c => c | none => .skip
end Go.Proofs.YtmcmaklilfgdiaaGreat
