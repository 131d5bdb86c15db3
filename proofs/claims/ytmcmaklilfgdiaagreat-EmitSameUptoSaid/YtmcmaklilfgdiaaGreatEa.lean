/- An evaluator of the program's code over a memory of its own, whose blocks' numbers are its own: definitions. -/
import Derived.Calls
import Derived.Below
import Derived.Laws.Append
namespace Go.Proofs.YtmcmaklilfgdiaaGreat.Ev
open Go
noncomputable section

/-- how many package-level variables the program has -/
def gmax : Nat := 0

/-- A capacity that is not known. -/
def inf : Nat := 2 ^ 100

/-- A list's element, its lists set anew: by the recursor alone, for the kernel's sake. -/
def idxL {α : Type} (l : List α) : Nat → Option α :=
  List.rec (motive := fun _ => Nat → Option α) (fun _ => none) (fun x _ ih i => Nat.rec (motive := fun _ => Option α) (some x) (fun k _ => ih k) i) l
def getL (l : List Value) : Nat → Value :=
  List.rec (motive := fun _ => Nat → Value) (fun _ => undef) (fun x _ ih i => Nat.rec (motive := fun _ => Value) x (fun k _ => ih k) i) l
def setL (l : List Value) (v : Value) : Nat → List Value :=
  List.rec (motive := fun _ => Nat → List Value) (fun _ => []) (fun x xs ih i => Nat.rec (motive := fun _ => List Value) (v :: xs) (fun k _ => x :: ih k) i) l

theorem idxL_eq {α : Type} : ∀ (l : List α) (i : Nat), idxL l i = l[i]?
  | [], _ => rfl
  | _ :: _, 0 => rfl
  | _ :: l, i + 1 => by rw [List.getElem?_cons_succ, ← idxL_eq l i]; rfl
theorem getL_eq : ∀ (l : List Value) (i : Nat), getL l i = l.getD i undef
  | [], _ => rfl
  | _ :: _, 0 => rfl
  | _ :: l, i + 1 => by
    have := getL_eq l i
    show getL l i = _
    rw [this]; rfl
theorem setL_eq : ∀ (l : List Value) (v : Value) (i : Nat), setL l v i = l.set i v
  | [], _, _ => rfl
  | _ :: _, _, 0 => rfl
  | x :: l, v, i + 1 => by
    have := setL_eq l v i
    show x :: setL l v i = _
    rw [this]; rfl

/-- A block of the evaluator's memory. -/
inductive ABlk where
  | dead
  | cells (vs : List Value) (esz : Nat)
  | ro (vs : List Value)
  | iter (s : ByteArray) (pos : Nat)
  | loop (st : LoopState) (pending : Option Code) (fn : FuncId) (tmps : List Value) (params : List Tmp) (assign body : Code) (defers : Nat)
  | defs (alive : Bool)
  | map (es : List (Value × Value × Nat)) (clock : Nat)
  | mapIter (m : Option Nat) (since : Nat) (seen : List Nat) (stepped : Nat)
  | lst (n : Nat) (es : List Value) (sz : Nat)
  deriving Inhabited

/-- The evaluator's memory: the newest block first. -/
structure AH where
  n : Nat
  bs : List ABlk

def AH.get (h : AH) (id : Nat) : Option ABlk := if Nat.blt id h.n then h.bs[h.n - 1 - id]? else none
def AH.set (h : AH) (id : Nat) (b : ABlk) : AH := ⟨h.n, if Nat.blt id h.n then h.bs.set (h.n - 1 - id) b else h.bs⟩
def AH.push (h : AH) (b : ABlk) : AH := ⟨h.n + 1, b :: h.bs⟩

/-- A call that is put off. -/
inductive ADef where
  | collected (id : Nat)
  | fn (f : FuncId) (args : List Value)

structure AF where
  fn : FuncId
  tmps : List Value
  defs : List ADef
  rnd : Option Nat

inductive AExit where
  | normal
  | exit (id : Nat)
  | ret

structure Out where
  e : AExit
  a : AF
  h : AH

inductive Task where
  | code (c : Code) (a : AF)
  | call (f : FuncId) (args : List Value)
  | dcall (f : FuncId) (args : List Value)
  | round (l : Nat) (args : List Value)

/-- What an operation comes to. -/
inductive AN where
  | value (v : Value)
  | skip
  | enter (f : FuncId) (args : List Value)
  | round (l : Nat) (args : List Value)
  | defer (d : ADef)
  | recover

/-- values without addresses -/
def simpleV : Value → Bool
  | .bool _ | .int _ _ | .string _ | .pointer none | .slice none 0 0 | .map none | .nilFunc | .nilIface => true
  | .func (.func _) ⟨[]⟩ ⟨[]⟩ => true
  | _ => false

def closedV : Value → Bool
  | .agg ⟨cs⟩ => cs.all simpleV
  | .tuple ⟨cs⟩ => cs.all simpleV
  | v => simpleV v

def AF.eval (a : AF) : Operand → Option Value
  | .tmp t => some (getL a.tmps t)
  | .const v => if closedV v then some v else none
  | .func f => some (.func (.func f) #[] #[])
  | .global g => if Nat.blt g gmax then some (.pointer (some ⟨g, 0, none⟩)) else none

def AF.put (a : AF) (dst : Option Tmp) (v : Value) : AF :=
  match dst with
  | some d => { a with tmps := setL a.tmps v d }
  | none => a

def cellsL (v : Value) : List Value := match v with | .agg ⟨cs⟩ => cs | v => [v]

def oneC : Value → Bool
  | .agg _ | .tuple _ => false
  | _ => true

/-- what may be handed on unseen -/
def opqOk : Value → Bool
  | .agg _ | .tuple _ | .bool _ => false
  | _ => true

/-- a list that is known and stays: n elements of sz cells each; the list that a block of the evaluator's owns; a pointer to cells that are known and stay -/
abbrev lstV (sz n : Nat) (es : List Value) : Value := .func (.yield n) ⟨es⟩ ⟨[.slice none sz 0]⟩
abbrev ownV (id : Nat) : Value := .func (.yield id) ⟨[]⟩ ⟨[.bool false]⟩
abbrev cptrV (cells : List Value) : Value := .func (.yield 0) ⟨cells⟩ ⟨[.bool true]⟩

/-- a value of the machine's that is only handed on -/
def opq (v : Value) : Value := .func (.yield 0) ⟨[v]⟩ ⟨[]⟩

def sizeE (P : Program) (t : TypeId) : Option Nat := (P.info? t).map (·.size)
def zeroE (P : Program) (t : TypeId) : Option Value :=
  match P.info? t with
  | some i => match i.zero with
    | some v => if closedV v then some v else none
    | none => none
  | none => none
def isAggE (P : Program) (t : TypeId) : Option Bool :=
  match P.underlying t with
  | some (.struct _) | some (.array _ _) => some true
  | some _ => some false
  | none => none

/-- cells of a block -/
def AH.cells (h : AH) (b : Nat) : Option (List Value) :=
  match h.get b with
  | some (.cells vs _) => some vs
  | some (.ro vs) => some vs
  | _ => none

def readN (h : AH) (b i n : Nat) : Option (List Value) :=
  match h.cells b with
  | some vs => if Nat.ble (i + n) vs.length then some ((vs.drop i).take n) else none
  | none => none

def setMany : List Value → Nat → List Value → List Value
  | vs, _, [] => vs
  | vs, i, v :: r => setMany (vs.set i v) (i + 1) r

def writeN (h : AH) (b i : Nat) (news : List Value) : Option AH :=
  match h.get b with
  | some (.cells vs esz) => if Nat.ble (i + news.length) vs.length && news.all oneC then some (h.set b (.cells (setMany vs i news) esz)) else none
  | _ => none

/-- a variable of a type, read -/
def loadE (P : Program) (h : AH) (t : TypeId) (p : Value) : Option Value :=
  match p with
  | .pointer (some ⟨b, i, none⟩) =>
    match isAggE P t with
    | some true => match sizeE P t with
      | some n => (readN h b i n).map fun l => .agg ⟨l⟩
      | none => none
    | some false => match h.cells b with
      | some vs => vs[i]?
      | none => none
    | none => none
  | _ => none

def storeE (P : Program) (h : AH) (t : TypeId) (p v : Value) : Option AH :=
  match p with
  | .pointer (some ⟨b, i, none⟩) =>
    match sizeE P t with
    | some n => if Nat.beq (cellsL v).length n then writeN h b i (cellsL v) else none
    | none => none
  | _ => none

/-- a new row of cells -/
def AH.row (h : AH) (vs : List Value) (esz : Nat) : AH × Value := (h.push (.cells vs esz), .pointer (some ⟨h.n, 0, none⟩))

/-- an operation on whole numbers, strings and bools: the model's own, in a world of its own -/
def plainOp (P : Program) (s : Sem Value) : Option Value :=
  match s.run P default with
  | .ok v _ => some v
  | .halt _ _ => none

def eqlE (x y : Value) : Option Bool :=
  match x, y with
  | .pointer none, .pointer b => some b.isNone
  | .pointer (some _), .pointer none => some false
  | .slice none 0 0, .slice b _ _ => some b.isNone
  | .slice (some _) _ _, .slice none _ _ => some false
  | .map none, .map b => some b.isNone
  | .map (some _), .map none => some false
  | .nilFunc, .nilFunc => some true
  | .nilFunc, .func (.func _) _ _ => some false
  | .func (.func _) _ _, .nilFunc => some false
  | .bool a, .bool b => some (a == b)
  | _, _ => none

/-- a value without addresses that may be a key -/
def scalarV : Value → Bool
  | .bool _ | .int _ _ | .string _ => true
  | _ => false

def closedK : Value → Bool
  | .agg ⟨cs⟩ => cs.all scalarV
  | v => scalarV v

def partE (P : Program) (t : TypeId) (cs : List Value) (off : Nat) : Option Value :=
  match isAggE P t with
  | some true => match sizeE P t with
    | some n => some (.agg ⟨(cs.drop off).take (off + n - off)⟩)
    | none => none
  | some false => cs[off]?
  | none => none

def eqFs (P : Program) (f : TypeId → Value → Value → Option Bool) (xs ys : List Value) : List Field → Option Bool
  | [] => some true
  | d :: r =>
    if d.name ≠ "_" then
      match partE P d.type xs d.offset, partE P d.type ys d.offset with
      | some a, some b => match f d.type a b with
        | some true => eqFs P f xs ys r
        | some false => some false
        | none => none
      | _, _ => none
    else eqFs P f xs ys r

/-- two values without addresses -/
def eqVE (P : Program) : Nat → TypeId → Value → Value → Option Bool
  | 0, _, _, _ => none
  | d + 1, t, x, y =>
    match P.underlying t, x, y with
    | some .bool, .bool a, .bool b => some (a == b)
    | some (.int _), .int k a, .int k' b => if k = k' then some (a == b) else none
    | some .string, .string a, .string b => some (a == b)
    | some (.struct fields), .agg ⟨xs⟩, .agg ⟨ys⟩ => if P.stoodInHeld t then none else eqFs P (eqVE P d) xs ys fields.toList
    | _, _, _ => none

def structE (P : Program) (t : TypeId) (x y : Value) : Option Bool :=
  match x, y with
  | .agg ⟨xs⟩, .agg ⟨ys⟩ => if xs.all scalarV && ys.all scalarV && !(P.eqGuardType P.depth t) then eqVE P 100 t (.agg ⟨xs⟩) (.agg ⟨ys⟩) else none
  | _, _ => none

def checkFs (P : Program) (f : TypeId → Value → Bool) (cs : List Value) : List Field → Bool
  | [] => true
  | d :: r =>
    (if d.name ≠ "_" then
      match partE P d.type cs d.offset with
      | some v => f d.type v
      | none => false
    else true) && checkFs P f cs r

def checkKE (P : Program) : Nat → TypeId → Value → Bool
  | 0, _, _ => false
  | d + 1, t, v =>
    match P.underlying t, v with
    | some .bool, .bool _ | some (.int _), .int _ _ | some .string, .string _ => true
    | some (.struct fields), .agg ⟨cs⟩ => checkFs P (checkKE P d) cs fields.toList
    | _, _ => false

def findE (P : Program) (kt : TypeId) (k : Value) : List (Value × Value × Nat) → Nat → Option (Option (Nat × Value))
  | [], _ => some none
  | (k', v, _) :: r, i => match eqVE P 100 kt k k' with
    | some true => some (some (i, v))
    | some false => findE P kt k r (i + 1)
    | none => none

def lookupE (P : Program) (h : AH) (t : TypeId) (x k : Value) (ok : Bool) : Option Value :=
  match P.underlying t with
  | some (.map kt et) =>
    if closedK k && checkKE P 100 kt k then
      match (match x with
        | .map none => some []
        | .map (some r) => match h.get r with
          | some (.map es _) => some es
          | _ => none
        | _ => none) with
      | some es => match findE P kt k es 0 with
        | some (some (_, v)) => some (if ok then .tuple ⟨[v, .bool true]⟩ else v)
        | some none => match zeroE P et with
          | some z => some (if ok then .tuple ⟨[z, .bool false]⟩ else z)
          | none => none
        | none => none
      | none => none
    else none
  | _ => none

def mapUpdateE (P : Program) (h : AH) (t : TypeId) (m k v : Value) : Option AH :=
  match P.underlying t, m with
  | some (.map kt _), .map (some r) =>
    if closedK k && checkKE P 100 kt k then
      match h.get r with
      | some (.map es clock) => match findE P kt k es 0 with
        | some (some (i, _)) => match es[i]? with
          | some (old, _, born) => if Instr.sameBits 10000 old k then some (h.set r (.map (es.set i (k, v, born)) clock)) else none
          | none => none
        | some none => some (h.set r (.map (es ++ [(k, v, clock)]) (clock + 1)))
        | none => none
      | _ => none
    else none
  | _, _ => none

def kindOK : TypeDesc → Value → Bool
  | .pointer _, .pointer _ => true
  | .slice _, .slice _ _ _ => true
  | .map _ _, .map _ => true
  | .func _ _ _, .nilFunc => true
  | .func _ _ _, .func _ _ _ => true
  | .bool, .bool _ => true
  | _, _ => false

/-- whole numbers, the common operators -/
def intE (op : BinOp) (k : IntKind) (a b : Int) : Option Value :=
  match op with
  | .add => some (.int k (k.wrap (a + b)))
  | .sub => some (.int k (k.wrap (a - b)))
  | .mul => some (.int k (k.wrap (a * b)))
  | .eql => some (.bool (decide (a = b)))
  | .neq => some (.bool (!decide (a = b)))
  | .lss => some (.bool (decide (a < b)))
  | .leq => some (.bool (decide (a ≤ b)))
  | .gtr => some (.bool (decide (b < a)))
  | .geq => some (.bool (decide (b ≤ a)))
  | _ => none

def binE (P : Program) (op : BinOp) (t : TypeId) (x y : Value) : Option Value :=
  match x, y with
  | .int k a, .int k' b => match (if k = k' then intE op k a b else none) with
    | some v => some v
    | none => plainOp P (binOp op t (.int k a) (.int k' b))
  | .string a, .string b => plainOp P (binOp op t (.string a) (.string b))
  | x, y =>
    match op, P.underlying t with
    | .eql, some d => if kindOK d x then (eqlE x y).map .bool else (structE P t x y).map .bool
    | .neq, some d => if kindOK d x then (eqlE x y).map fun b => .bool (!b) else (structE P t x y).map fun b => .bool (!b)
    | _, _ => none

def bytesOf : List Value → Option (List UInt8)
  | [] => some []
  | .int .u8 n :: r => (bytesOf r).map (UInt8.ofNat n.toNat :: ·)
  | _ => none

def boundE (x : Option Value) (d y : Nat) : Option Nat :=
  match x with
  | none => some d
  | some (.int _ i) => if 0 ≤ i ∧ i ≤ (y : Int) then some i.toNat else none
  | some _ => none

def addE (b i n : Nat) : Option Addr := some ⟨b, i + n, none⟩

/-- a slice cut anew -/
def eszE (h : AH) (b : Nat) : Option Nat :=
  match h.get b with
  | some (.cells _ e) => some e
  | _ => none

def sliceE (P : Program) (h0 : AH) (t : TypeId) (x : Value) (lo hi mx : Option Value) : Option Value :=
  match P.underlying t, x with
  | some .string, .string s =>
    if mx.isSome then none else
    match boundE hi s.size s.size with
    | some h => match boundE lo 0 h with
      | some l => some (.string (s.extract l h))
      | none => none
    | none => none
  | some (.slice elem), .slice a len cap =>
    match sizeE P elem with
    | some size =>
      if Nat.blt cap inf then
        match boundE mx cap cap with
        | some m => match boundE hi len m with
          | some h => match boundE lo 0 h with
            | some l =>
              if mx.isSome && hi.isNone then none else
              match a with
              | none => if l = 0 ∧ h = 0 ∧ m = 0 then some (.slice none 0 0) else none
              | some ⟨b, i, none⟩ => some (.slice (if m = l then some ⟨b, i, none⟩ else addE b i (l * size)) (h - l) (m - l))
              | _ => none
            | none => none
          | none => none
        | none => none
      else
        -- a capacity that isn't known: only up to the length
        match a with
        | some ⟨b, i, none⟩ =>
          match mx with
          | none =>
            match boundE hi len len with
            | some h => match boundE lo 0 h with
              | some l => if l = 0 then some (.slice (some ⟨b, i, none⟩) h cap) else
                match eszE h0 b with
                | some e => if Nat.beq e size then some (.slice (addE b i (l * size)) (h - l) inf) else none
                | none => none
              | none => none
            | none => none
          | some mv =>
            match boundE (some mv) len len with
            | some m => match boundE hi len m with
              | some h => match boundE lo 0 h with
                | some l => if hi.isNone || !(Nat.blt m inf) || Nat.beq len 0 then none else some (.slice (if m = l then some ⟨b, i, none⟩ else addE b i (l * size)) (h - l) (m - l))
                | none => none
              | none => none
            | none => none
        | _ => none
    | none => none
  | some (.array n elem), .pointer (some ⟨b, i, none⟩) =>
    match sizeE P elem with
    | some size =>
      match boundE mx n n with
      | some m => match boundE hi n m with
        | some h => match boundE lo 0 h with
          | some l => if (mx.isSome && hi.isNone) || !(Nat.blt m inf) then none else some (.slice (if m = l then some ⟨b, i, none⟩ else addE b i (l * size)) (h - l) (m - l))
          | none => none
        | none => none
      | none => none
    | none => none
  | _, _ => none

def indexAddrE (P : Program) (t : TypeId) (x ix : Value) : Option Value :=
  match ix with
  | .int _ i =>
    match P.underlying t, x with
    | some (.array len elem), .pointer (some ⟨b, o, none⟩) =>
      if 0 ≤ i ∧ i < (len : Int) then (sizeE P elem).map fun n => .pointer (addE b o (i.toNat * n)) else none
    | some (.slice elem), .slice (some ⟨b, o, none⟩) len _ =>
      if 0 ≤ i ∧ i < (len : Int) then (sizeE P elem).map fun n => .pointer (addE b o (i.toNat * n)) else none
    | _, _ => none
  | _ => none

def fieldAddrE (P : Program) (s : TypeId) (x : Value) (f : Nat) : Option Value :=
  match P.underlying s, x with
  | some (.struct fields), .pointer (some ⟨b, o, none⟩) =>
    match fields[f]? with
    | some fd => match sizeE P fd.type with
      | some (_ + 1) => some (.pointer (addE b o fd.offset))
      | _ => none
    | none => none
  | _, _ => none

def indexE (P : Program) (t : TypeId) (x ix : Value) : Option Value :=
  match ix with
  | .int _ i =>
    match P.underlying t, x with
    | some (.array len elem), .agg ⟨cs⟩ =>
      if 0 ≤ i ∧ i < (len : Int) then (match sizeE P elem with | some n => partE P elem cs (i.toNat * n) | none => none) else none
    | some .string, .string s => if 0 ≤ i then (s[i.toNat]?).map fun b => .int .u8 b.toNat else none
    | _, _ => none
  | _ => none

/-- placing the parts of a value -/
def fillL (place : Nat → Option (Nat × Nat)) (cells : List Value) : List (Nat × Value) → Option (List Value)
  | [] => some cells
  | (i, v) :: rest =>
    match place i with
    | none => none
    | some (off, size) =>
      if Nat.beq (cellsL v).length size && Nat.ble (off + (cellsL v).length) cells.length then fillL place (setMany cells off (cellsL v)) rest else none

def evalPs (ρ : Operand → Option Value) : List (Nat × Operand) → Option (List (Nat × Value))
  | [] => some []
  | (i, x) :: r => match ρ x with
    | some v => (evalPs ρ r).map ((i, v) :: ·)
    | none => none
def evalL (ρ : Operand → Option Value) : List Operand → Option (List Value)
  | [] => some []
  | x :: r => match ρ x with
    | some v => (evalL ρ r).map (v :: ·)
    | none => none
def evalO (ρ : Operand → Option Value) : Option Operand → Option (Option Value)
  | none => some none
  | some x => (ρ x).map some

def placeE (P : Program) (fields : Array Field) (i : Nat) : Option (Nat × Nat) :=
  match fields[i]? with
  | some f => (sizeE P f.type).map fun n => (f.offset, n)
  | none => none

def buildE (P : Program) (t : TypeId) (parts : List (Nat × Value)) : Option Value :=
  match zeroE P t, P.underlying t with
  | some z, some (.struct fields) =>
    if fields.toList.all fun f => (sizeE P f.type).isSome then
      (fillL (placeE P fields) (cellsL z) parts).map fun l => .agg ⟨l⟩
    else none
  | some z, some (.array _ elem) =>
    match sizeE P elem with
    | some size => (fillL (fun i => some (i * size, size)) (cellsL z) parts).map fun l => .agg ⟨l⟩
    | none => none
  | _, _ => none

def reps (zero : List Value) : Nat → List Value
  | 0 => []
  | n + 1 => zero ++ reps zero n

def buildSliceE (P : Program) (h : AH) (t : TypeId) (len : Nat) (parts : List (Nat × Value)) : Option (Value × AH) :=
  match P.underlying t with
  | some (.slice elem) =>
    match zeroE P elem, sizeE P elem with
    | some z, some size =>
      if Nat.ble (len * size) 16777216 && Nat.ble len 16777216 && Nat.beq (cellsL z).length size then
        match fillL (fun i => some (i * size, size)) (reps (cellsL z) len) parts with
        | some cells => some (.slice (some ⟨h.n, 0, none⟩) len len, h.push (.cells cells size))
        | none => none
      else none
    | _, _ => none
  | _ => none

def makeSliceE (P : Program) (h : AH) (t : TypeId) (l c : Value) : Option (Value × AH) :=
  match P.underlying t, l, c with
  | some (.slice elem), .int _ l, .int _ c =>
    match zeroE P elem, P.info? elem with
    | some z, some i =>
      if 0 ≤ l ∧ l ≤ c ∧ c ≤ 1048576 ∧ Nat.beq (cellsL z).length i.size ∧ Nat.ble i.bytes 65536 then
        some (.slice (some ⟨h.n, 0, none⟩) l.toNat c.toNat, h.push (.cells (reps (cellsL z) c.toNat) i.size))
      else none
    | _, _ => none
  | _, _, _ => none

/-- the cells that are appended or copied: n elements of a size -/
def srcE (h : AH) (size : Nat) (x : Value) : Option (Nat × List Value) :=
  match x with
  | .slice none 0 0 => some (0, [])
  | .slice (some ⟨b, i, none⟩) n _ => (readN h b i (n * size)).map fun l => (n, l)
  | .string s => if Nat.beq size 1 then some (s.size, s.data.toList.map fun b => .int .u8 b.toNat) else none
  | _ => none

/-- what is appended: how many elements, and their cells -/
def appSrc (P : Program) (h : AH) (argTypes : Array TypeId) (z : List Value) (size : Nat) (x : Value) : Option (Nat × List Value) :=
  match argTypes[1]? with
  | none => none
  | some xType =>
    match P.underlying xType with
    | none => none
    | some (.int _) => match x with
      | .int _ l => if 0 ≤ l ∧ l ≤ 1048576 then some (l.toNat, reps z l.toNat) else none
      | _ => none
    | some _ => srcE h size x

/-- n elements appended -/
def appTo (h : AH) (size : Nat) (base : Option Addr) (len cap n : Nat) (news : List Value) : Option (Value × AH) :=
  if Nat.blt cap inf then
    if Nat.ble (len + n) cap then
      match base with
      | none => if Nat.beq (len + n) 0 && Nat.beq cap 0 then some (.slice none 0 0, h) else none
      | some ⟨b, i, none⟩ => (writeN h b (i + len * size) news).map fun h' => (.slice (some ⟨b, i, none⟩) (len + n) cap, h')
      | some ⟨_, _, some _⟩ => none
    else
      match base with
      | none => if Nat.beq len 0 then some (.slice (some ⟨h.n, 0, none⟩) (len + n) inf, h.push (.cells news size)) else none
      | some ⟨b, i, none⟩ => (readN h b i (len * size)).map fun old => (.slice (some ⟨h.n, 0, none⟩) (len + n) inf, h.push (.cells (old ++ news) size))
      | some ⟨_, _, some _⟩ => none
  else
    match base with
    | some ⟨b, i, none⟩ =>
      match h.get b with
      | some (.cells vs esz) =>
        if Nat.beq n 0 then some (.slice (some ⟨b, i, none⟩) len cap, h) else
        if Nat.beq esz size && Nat.ble (i + len * size) vs.length then
          some (.slice (some ⟨h.n, 0, none⟩) (len + n) inf, (h.set b .dead).push (.cells ((vs.drop i).take (len * size) ++ news) size))
        else none
      | _ => none
    | _ => none

/-- an append -/
def appendE (P : Program) (h : AH) (argTypes : Array TypeId) (s x : Value) : Option (Value × AH) :=
  match argTypes[0]? with
  | none => none
  | some sType =>
    match P.underlying sType with
    | some (.slice elem) =>
      match P.info? elem, zeroE P elem, s with
      | some i, some z, .slice base len cap =>
        if Nat.beq (cellsL z).length i.size && Nat.blt 0 i.size && Nat.ble i.bytes 65536 then
          match appSrc P h argTypes (cellsL z) i.size x with
          | some (n, news) => if Nat.ble (len + n) 1048576 && news.all oneC then appTo h i.size base len cap n news else none
          | none => none
        else none
      | _, _, _ => none
    | _ => none

def lenE (P : Program) (h : AH) (argTypes : Array TypeId) (x : Value) : Option Value :=
  match argTypes[0]? with
  | some t => match P.underlying t, x with
    | some .string, .string s => some (goInt s.size)
    | some (.array n _), _ => some (goInt n)
    | some (.slice _), .slice _ n _ => some (goInt n)
    | some (.map _ _), .map none => some (goInt 0)
    | some (.map _ _), .map (some r) => match h.get r with
      | some (.map es _) => some (goInt es.length)
      | _ => none
    | _, _ => none
  | none => none

def capE (P : Program) (argTypes : Array TypeId) (x : Value) : Option Value :=
  match argTypes[0]? with
  | some t => match P.underlying t, x with
    | some (.slice _), .slice _ _ c => if Nat.blt c inf then some (goInt c) else none
    | _, _ => none
  | none => none

def copyE (P : Program) (h : AH) (argTypes : Array TypeId) (d s : Value) : Option (Value × AH) :=
  match argTypes[0]? with
  | some dType => match P.underlying dType, d with
    | some (.slice elem), .slice base dLen _ =>
      match sizeE P elem with
      | some size =>
        match srcE h size s with
        | some (sLen, news) =>
          let n := Nat.min sLen dLen
          match base with
          | none => some (goInt n, h)
          | some ⟨b, i, none⟩ => (writeN h b i (news.take (n * size))).map fun h' => (goInt n, h')
          | _ => none
        | none => none
      | none => none
    | _, _ => none
  | none => none

def foldMax (P : Program) (f : Value → Value → Sem Value) : Value → List Value → Option Value
  | x, [] => some x
  | x, y :: r => match x, y with
    | .int k a, .int k' b => match plainOp P (f (.int k a) (.int k' b)) with
      | some z => foldMax P f z r
      | none => none
    | _, _ => none

def builtinE (P : Program) (b : Builtin) (argTypes : Array TypeId) (args : List Value) (h : AH) : Option (AN × AH) :=
  match b, args with
  | .len, [x] => (lenE P h argTypes x).map fun v => (.value v, h)
  | .cap, [x] => (capE P argTypes x).map fun v => (.value v, h)
  | .append, [s, x] => (appendE P h argTypes s x).map fun (v, h') => (.value v, h')
  | .copy, [d, s] => (copyE P h argTypes d s).map fun (v, h') => (.value v, h')
  | .max, x :: r => (foldMax P Builtin.max2 x r).map fun v => (.value v, h)
  | .min, x :: r => (foldMax P Builtin.min2 x r).map fun v => (.value v, h)
  | .recover, [] => some (.recover, h)
  | _, _ => none

def convertE (P : Program) (h : AH) (src dst : TypeId) (x : Value) : Option (Value × AH) :=
  match P.underlying src, P.underlying dst, x with
  | some _, some (.int k), .int _ n => some (.int k (k.wrap n), h)
  | some _, some .string, .string s => some (.string s, h)
  | some .string, some (.slice e), .string s =>
    match P.underlying e with
    | some (.int .u8) => some (.slice (some ⟨h.n, 0, none⟩) s.size inf, h.push (.cells (s.data.toList.map fun b => .int .u8 b.toNat) 1))
    | _ => none
  | some (.slice _), some (.slice e), .slice (some ⟨b, i, none⟩) len cap =>
    match Nat.beq src dst && Nat.blt 0 len, P.underlying e, h.get b with
    | true, some (.int .u8), some (.cells _ _) => some (.slice (some ⟨b, i, none⟩) len cap, h)
    | _, _, _ => none
  | some (.slice e), some .string, .slice a len _ =>
    match P.underlying e with
    | some (.int .u8) => match a with
      | none => some (.string .empty, h)
      | some ⟨b, i, none⟩ => match readN h b i len with
        | some l => (bytesOf l).map fun bs => (.string ⟨bs.toArray⟩, h)
        | none => none
      | _ => none
    | _ => none
  | _, _, _ => none

def callE (P : Program) (ρ : Operand → Option Value) (c : Call) (h : AH) : Option (AN × AH) :=
  match evalL ρ c.args.toList with
  | none => none
  | some args =>
    match c.callee with
    | .builtin b => builtinE P b c.argTypes args h
    | .value f =>
      match ρ f with
      | some (.func (.func g) ⟨first⟩ ⟨cap⟩) => some (.enter g (first ++ args ++ cap), h)
      | some (.func (.yield l) ⟨[]⟩ ⟨[]⟩) => some (.round l args, h)
      | _ => none
    | .invoke .. => none

def deferE (ρ : Operand → Option Value) (c : Call) : Option ADef :=
  match c.callee with
  | .value f =>
    match ρ f, evalL ρ c.args.toList with
    | some (.func (.func g) ⟨first⟩ ⟨cap⟩), some args => some (.fn g (first ++ args ++ cap))
    | _, _ => none
  | _ => none

def keyE : Value → Option (List Value)
  | .string s => some [.string s]
  | .int k n => some [.int k n]
  | .agg ⟨cs⟩ => if cs.all fun v => match v with | .string _ | .int _ _ => true | _ => false then some cs else none
  | _ => none

def opE (P : Program) (ρ : Operand → Option Value) (ty : TypeId) (op : Op) (h : AH) : Option (AN × AH) :=
  let v1 (x : Option Value) : Option (AN × AH) := x.map fun v => (.value v, h)
  match op with
  | .move x | .assign x => v1 (ρ x)
  | .pick c a b =>
    match ρ c, ρ a, ρ b with
    | some (.bool c), some a, some b => some (.value (if c then a else b), h)
    | _, _, _ => none
  | .alloc elem => (zeroE P elem).map fun z => (.value (.pointer (some ⟨h.n, 0, none⟩)), h.push (.cells (cellsL z) 0))
  | .box elem x => (ρ x).map fun v => (.value (.pointer (some ⟨h.n, 0, none⟩)), h.push (.cells (cellsL v) 0))
  | .build t parts => match evalPs ρ parts.toList with
    | some ps => v1 (buildE P t ps)
    | none => none
  | .buildSlice t len parts => match evalPs ρ parts.toList with
    | some ps => (buildSliceE P h t len ps).map fun (v, h') => (.value v, h')
    | none => none
  | .load t a => match ρ a with
    | some p => v1 (loadE P h t p)
    | none => none
  | .store t a x => match ρ a, ρ x with
    | some p, some v => (storeE P h t p v).map fun h' => (.skip, h')
    | _, _ => none
  | .nilCheck x => match ρ x with
    | some (.pointer (some a)) => some (.value (.pointer (some a)), h)
    | some (.func (.func f) first cap) => some (.value (.func (.func f) first cap), h)
    | _ => none
  | .binOp op t x y _ => match ρ x, ρ y with
    | some a, some b => v1 (binE P op t a b)
    | _, _ => none
  | .unOp op _ x => match ρ x with
    | some (.int k n) => v1 (plainOp P (Op.unary op (.int k n)))
    | some (.bool b) => v1 (plainOp P (Op.unary op (.bool b)))
    | _ => none
  | .convert src dst x => match ρ x with
    | some v => (convertE P h src dst v).map fun (v, h') => (.value v, h')
    | none => none
  | .makeInterface t x => match P.underlying t with
    | some (.interface _) => none
    | some _ => match ρ x with
      | some v => some (.value (.iface t v), h)
      | none => none
    | none => none
  | .makeFunc (.func f) first cap => match evalL ρ first.toList, evalL ρ cap.toList with
    | some fs, some cs => some (.value (.func (.func f) ⟨fs⟩ ⟨cs⟩), h)
    | _, _ => none
  | .makeSlice t l c => match ρ l, ρ c with
    | some l, some c => (makeSliceE P h t l c).map fun (v, h') => (.value v, h')
    | _, _ => none
  | .slice t x lo hi mx => match ρ x, evalO ρ lo, evalO ρ hi, evalO ρ mx with
    | some x, some lo, some hi, some mx => v1 (sliceE P h t x lo hi mx)
    | _, _, _, _ => none
  | .fieldAddr s x f => match ρ x with
    | some v => v1 (fieldAddrE P s v f)
    | none => none
  | .field t x f => match ρ x, P.underlying t with
    | some (.agg ⟨cs⟩), some (.struct fields) => match fields[f]? with
      | some fd => v1 (partE P fd.type cs fd.offset)
      | none => none
    | _, _ => none
  | .indexAddr t x ix => match ρ x, ρ ix with
    | some x, some ix => v1 (indexAddrE P t x ix)
    | _, _ => none
  | .index t x ix => match ρ x, ρ ix with
    | some x, some ix => v1 (indexE P t x ix)
    | _, _ => none
  | .makeMap _ none => some (.value (.map (some h.n)), h.push (.map [] 0))
  | .lookup t x ix ok => match ρ x, ρ ix with
    | some x, some k => v1 (lookupE P h t x k ok)
    | _, _ => none
  | .mapUpdate t m k x => match ρ m, ρ k, ρ x with
    | some m, some k, some v => (mapUpdateE P h t m k v).map fun h' => (.skip, h')
    | _, _, _ => none
  | .range t x => match ρ x, P.underlying t with
    | some (.string s), some .string => some (.value (.pointer (some ⟨h.n, 0, none⟩)), h.push (.iter s 0))
    | _, _ => none
  | .next it isString => match ρ it, isString with
    | some (.pointer (some ⟨b, 0, none⟩)), true => match h.get b with
      | some (.iter s pos) =>
        if Nat.blt pos s.size then
          some (.value (.tuple #[.bool true, goInt pos, .int .i32 (Utf8.decode s pos).1]), h.set b (.iter s (pos + (Utf8.decode s pos).2)))
        else some (.value (.tuple #[.bool false]), h)
      | _ => none
    | _, _ => none
  | .extract t ix => match ρ t with
    | some (.tuple ⟨vs⟩) => v1 (vs[ix]?)
    | _ => none
  | .typeAssert x _ asserted ok => match ρ x, ok, P.underlying asserted with
    | some .nilIface, true, some _ => (zeroE P asserted).map fun z => (.value (.tuple #[z, .bool false]), h)
    | some (.iface t v), true, some d => match d with
      | .interface _ => none
      | _ => if Nat.beq t asserted then some (.value (.tuple #[v, .bool true]), h) else (zeroE P asserted).map fun z => (.value (.tuple #[z, .bool false]), h)
    | _, _, _ => none
  | .call c => callE P ρ c h
  | .defer c => (deferE ρ c).map fun d => (.defer d, h)
  | _ => none

end
end Go.Proofs.YtmcmaklilfgdiaaGreat.Ev
