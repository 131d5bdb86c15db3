/- The evaluator itself: regions, code, calls, rounds. -/
import Derived.Test.YtmcmaklilfgdiaaGreatEa
namespace Go.Proofs.YtmcmaklilfgdiaaGreat.Ev
open Go
noncomputable section

def yieldedE (ops : Array Oper) (tmps : List Value) (j : Nat) : Option Bool :=
  match (ops[j]?).bind (·.dst) with
  | some t => match idxL tmps t with
    | some (.bool b) => some b
    | _ => none
  | none => none

def wantedE (ops : Array Oper) (o : Oper) (tmps : List Value) : Bool :=
  match o.guard with
  | none => true
  | some (j, want) => match yieldedE ops tmps j with
    | some b => b == want
    | none => false

section
variable (P : Program) (ih : Task → AH → Option Out)

def one (r : Option Out) : Option (Value × AH) :=
  match r with
  | some ⟨_, ⟨_, [v], _, _⟩, h⟩ => some (v, h)
  | _ => none

def stepE (o : Oper) (a : AF) (h : AH) : Option (AF × AH) :=
  match opE P a.eval o.type o.op h with
  | some (.value v, h') => some (a.put o.dst v, h')
  | some (.skip, h') => some (a.put o.dst undef, h')
  | some (.enter f args, h') => (one (ih (.call f args) h')).map fun (v, h2) => (a.put o.dst v, h2)
  | some (.round l args, h') => (one (ih (.round l args) h')).map fun (v, h2) => (a.put o.dst v, h2)
  | some (.defer d, h') => if a.rnd.isNone then some (({ a with defs := d :: a.defs } : AF).put o.dst undef, h') else none
  | some (.recover, h') => if a.rnd.isNone then some (a.put o.dst .nilIface, h') else none
  | none => none

def opsE (ops : Array Oper) : List Nat → AF → AH → Option (AF × AH)
  | [], a, h => some (a, h)
  | i :: rest, a, h =>
    match ops[i]? with
    | none => opsE ops rest a h
    | some o =>
      if wantedE ops o a.tmps then
        match stepE P ih o a h with
        | some (a', h') => opsE ops rest a' h'
        | none => none
      else opsE ops rest (a.put o.dst undef) h

def unwindE : List ADef → AH → Option AH
  | [], h => some h
  | .collected id :: r, h => match h.get id with
    | some (.defs true) => unwindE r (h.set id (.defs false))
    | _ => none
  | .fn f args :: r, h => match ih (.dcall f args) h with
    | some out => unwindE r out.h
    | none => none

def resE (tmps : List Value) (h : AH) : List ResultVar → Option (List Value)
  | [] => some []
  | .tmp t :: r => (resE tmps h r).map (getL tmps t :: ·)
  | .cell a t :: r => match loadE P h t (getL tmps a) with
    | some v => (resE tmps h r).map (v :: ·)
    | none => none

def outV (vs : List Value) : Value := match vs with | [v] => v | vs => .tuple ⟨vs⟩

def setPs : List Tmp → List Value → List Value → List Value
  | p :: ps, v :: vs, tmps => setPs ps vs (setL tmps v p)
  | _, _, tmps => tmps

/-! A region that draws its order: it is run in one order, what acts as late as may be; and it is looked whether any other order must come to the same. -/

/-- the operations that leave the memory as it is -/
def lightOp (P : Program) : Op → Bool
  | .move _ | .assign _ | .pick .. | .build .. | .load .. | .nilCheck _ | .binOp .. | .unOp .. | .makeFunc .. | .makeInterface .. | .slice .. | .fieldAddr .. | .field .. | .indexAddr .. | .index .. | .extract .. | .typeAssert .. | .lookup .. => true
  | .call { callee := .builtin .len, .. } => true
  | .call { callee := .builtin .cap, .. } => true
  | .convert src dst _ => match P.underlying src, P.underlying dst with
    | some .string, some (.slice _) => false
    | _, _ => true
  | _ => false

/-- those that make a block, and do nothing else -/
def fillOp : Op → Bool
  | .buildSlice .. | .box .. | .alloc _ => true
  | _ => false

def heavyOp (P : Program) (op : Op) : Bool := !lightOp P op && !fillOp op

/-- the light ones that read the memory -/
def readsOp : Op → Bool
  | .load .. => true
  | .lookup .. => true
  | .call { callee := .builtin .len, .. } => true
  | .convert .. => true
  | .slice .. => true
  | _ => false

def eqC : Value → Value → Bool
  | .bool a, .bool b => a == b
  | .int k a, .int k' b => decide (k = k') && decide (a = b)
  | .string a, .string b => decide (a = b)
  | .pointer a, .pointer b => decide (a = b)
  | .slice a n c, .slice a' n' c' => decide (a = a') && Nat.beq n n' && Nat.beq c c'
  | .map a, .map b => decide (a = b)
  | .nilFunc, .nilFunc => true
  | .nilIface, .nilIface => true
  | .func (.func f) ⟨[]⟩ ⟨[]⟩, .func (.func g) ⟨[]⟩ ⟨[]⟩ => Nat.beq f g
  | _, _ => false

def eqL : List Value → List Value → Bool
  | [], [] => true
  | a :: l, b :: m => eqC a b && eqL l m
  | _, _ => false

def eqV : Value → Value → Bool
  | .agg ⟨a⟩, .agg ⟨b⟩ => eqL a b
  | .func (.func f) ⟨a⟩ ⟨b⟩, .func (.func f') ⟨a'⟩ ⟨b'⟩ => Nat.beq f f' && eqL a a' && eqL b b'
  | a, b => eqC a b

def step1 (ops : Array Oper) (i : Nat) (a : AF) (h : AH) : Option (AF × AH) :=
  match ops[i]? with
  | none => none
  | some o => if wantedE ops o a.tmps then stepE P ih o a h else some (a.put o.dst undef, h)

def traceE (ops : Array Oper) : List Nat → AF → AH → Option (List (AF × AH))
  | [], a, h => some [(a, h)]
  | i :: r, a, h =>
    match step1 P ih ops i a h with
    | some (a', h') => (traceE ops r a' h').map ((a, h) :: ·)
    | none => none

/-- is an operation behind another one, by so many edges? -/
def bef (ops : Array Oper) : Nat → Nat → Nat → Bool
  | 0, _, _ => false
  | n + 1, i, j =>
    match ops[j]? with
    | some o => o.after.toList.any fun e => Region.binds .any e && (Nat.beq e.on i || bef ops n i e.on)
    | none => false

def looks (ops : Array Oper) (o : Oper) : List Tmp :=
  (o.op.operands.toList.filterMap fun | .tmp t => some t | _ => none) ++
  (match o.guard with
   | some (g, _) => ((ops[g]?).bind (·.dst)).toList
   | none => [])

/-- does the order of two operations matter? -/
def tied (ops : Array Oper) (x y : Oper) : Bool :=
  (match x.dst with
   | some d => (looks ops y).contains d || y.dst == some d
   | none => false) ||
  (match y.dst with
   | some d => (looks ops x).contains d
   | none => false) ||
  (heavyOp P x.op && heavyOp P y.op)

/-- the next operation: one that does not act, where there is one -/
def pickE (ops : Array Oper) (done : List Nat) : Option Nat :=
  let ready := (List.range ops.size).filter fun i => !done.contains i && (match ops[i]? with | some o => o.after.toList.all fun e => !Region.binds .any e || done.contains e.on | none => false)
  match ready.find? fun i => match ops[i]? with | some o => !heavyOp P o.op | none => false with
  | some i => some i
  | none => ready.head?

def orderE (ops : Array Oper) : Nat → List Nat → List Nat
  | 0, done => done.reverse
  | n + 1, done => match pickE P ops done with
    | some i => orderE ops n (i :: done)
    | none => done.reverse

def heavyAt (ops : Array Oper) (i : Nat) : Bool :=
  match ops[i]? with
  | some o => heavyOp P o.op
  | none => false

/-- of two places of the order -/
def pairOk (ops : Array Oper) (i j : Nat) : Bool :=
  match ops[i]?, ops[j]? with
  | some oi, some oj => !Nat.beq i j && (!tied P ops oi oj || bef ops ops.size i j) && (!(heavyOp P oi.op && !heavyOp P oj.op) || bef ops ops.size i j)
  | _, _ => false

def staticOk (ops : Array Oper) (ord : List Nat) : Bool :=
  Nat.beq ord.length ops.size && ((List.range ops.size).all fun i => ord.contains i) &&
  (List.range ops.size).all fun q =>
    match ord[q]? with
    | none => false
    | some j =>
      match ops[j]? with
      | none => false
      | some oj =>
        (match oj.op with | .defer _ => false | _ => true) &&
        (oj.after.toList.all fun e => !Region.binds .any e || (ord.take q).contains e.on) &&
        (List.range q).all fun p => match ord[p]? with
          | some i => pairOk P ops i j
          | none => false

/-- may the operation at place q still be open at place j? -/
def openE (ops : Array Oper) (ord : List Nat) (q j : Nat) : Bool :=
  (List.range j).all fun k => Nat.blt k q || match ord[q]?, ord[k]? with
    | some i, some x => !heavyAt P ops x || !bef ops ops.size i x
    | _, _ => false

def readOk (ops : Array Oper) (ord : List Nat) (l : List (AF × AH)) (q : Nat) (o : Oper) (a : AF) (h : AH) : Bool :=
  if readsOp o.op then
    match opE P a.eval o.type o.op h with
    | some (.value v, _) => (List.range l.length).all fun j => Nat.blt j q || !openE P ops ord q j || (match l[j]? with
      | some x => (match opE P a.eval o.type o.op x.2 with
        | some (.value v', _) => eqV v v'
        | _ => false)
      | none => false)
    | _ => false
  else true

def fillOk (ops : Array Oper) (ord : List Nat) (l : List (AF × AH)) (q : Nat) (o : Oper) (h : AH) : Bool :=
  if fillOp o.op then
    match l[0]?, l[q + 1]? with
    | some (_, h0), some (_, h1) => match h1.get h.n with
      | some (.cells vs esz) => Nat.ble h0.n h.n && (List.range l.length).all fun j => Nat.ble j q || (match l[j]? with
        | some x => Nat.blt h.n x.2.n && (!openE P ops ord q j || (match x.2.get h.n with
          | some (.cells vs' esz') => eqL vs vs' && Nat.beq esz esz'
          | _ => false))
        | none => false)
      | _ => false
    | _, _ => false
  else true

def dynOk (ops : Array Oper) (ord : List Nat) (l : List (AF × AH)) : Bool :=
  (List.range ops.size).all fun q =>
    match ord[q]?, l[q]? with
    | some i, some (a, h) => match ops[i]? with
      | some o => !wantedE ops o a.tmps || (readOk P ops ord l q o a h && fillOk P ops ord l q o h)
      | none => false
    | _, _ => false

def drawE (ops : Array Oper) (a : AF) (h : AH) : Option (AF × AH) :=
  let ord := orderE P ops ops.size []
  if staticOk P ops ord then
    match traceE P ih ops ord a h with
    | some l => if dynOk P ops ord l then l.getLast? else none
    | none => none
  else none

/-- a range over a function: the loop is entered, the function called, the loop left -/
def enterE (g : FuncId) (first cap : List Value) (a : AF) (params : Array Tmp) (assign body : Code) (h1 : AH) (d : Nat) (mark : List ADef) : Option Out :=
  match one (ih (.call g (first ++ [.func (.yield h1.n) #[] #[]] ++ cap)) (h1.push (.loop .ready none a.fn a.tmps params.toList assign body d))) with
  | none => none
  | some (_, h2) =>
    match h2.get h1.n with
    | some (.loop st pend fn tmps ps as bd df) =>
      if st = .busy then none else
      match pend with
      | none => some ⟨.normal, ⟨a.fn, a.tmps, mark ++ a.defs, a.rnd⟩, h2.set h1.n (.loop .exhausted pend fn tmps ps as bd df)⟩
      | some .ret => some ⟨.ret, ⟨a.fn, a.tmps, mark ++ a.defs, a.rnd⟩, h2.set h1.n (.loop .exhausted pend fn tmps ps as bd df)⟩
      | some (.exit id) => some ⟨.exit id, ⟨a.fn, a.tmps, mark ++ a.defs, a.rnd⟩, h2.set h1.n (.loop .exhausted pend fn tmps ps as bd df)⟩
      | _ => none
    | _ => none

def stepC (t : Task) (h : AH) : Option Out :=
  match t with
  | .code c a =>
    match c with
    | .skip | .label _ => some ⟨.normal, a, h⟩
    | .region _ ops draw =>
      match (if draw then drawE P ih ops a h else opsE P ih ops (List.range ops.size) a h) with
      | some (a', h') => some ⟨.normal, a', h'⟩
      | none => none
    | .seq x y => match ih (.code x a) h with
      | some ⟨.normal, a', h'⟩ => ih (.code y a') h'
      | r => r
    | .cond c x y => match a.eval c with
      | some (.bool b) => ih (.code (if b then x else y) a) h
      | _ => none
    | .block id body => match ih (.code body a) h with
      | some ⟨.exit id', a', h'⟩ => some ⟨if Nat.beq id' id then .normal else .exit id', a', h'⟩
      | r => r
    | .loop body => match ih (.code body a) h with
      | some ⟨.normal, a', h'⟩ => ih (.code (.loop body) a') h'
      | r => r
    | .exit id => some ⟨.exit id, a, h⟩
    | .ret => some ⟨.ret, a, h⟩
    | .rangeFunc f params assign body =>
      match a.eval f with
      | some (.func (.func g) ⟨first⟩ ⟨cap⟩) =>
        match a.rnd with
        | none => enterE ih g first cap a params assign body (h.push (.defs true)) h.n [.collected h.n]
        | some l => match h.get l with
          | some (.loop _ _ _ _ _ _ _ d) => enterE ih g first cap a params assign body h d []
          | _ => none
      | _ => none
    | _ => none
  | .call f args | .dcall f args =>
    match P.funcs[f]? with
    | some fn => match fn.body with
      | some c =>
        match ih (.code c ⟨f, args ++ List.replicate (fn.ntmps - args.length) undef, [], none⟩) h with
        | some ⟨.exit _, _, _⟩ => none
        | some ⟨_, a, h1⟩ =>
          match unwindE ih a.defs h1 with
          | some h2 => (resE P a.tmps h2 fn.results.toList).map fun vs => ⟨.ret, ⟨f, [outV vs], [], none⟩, h2⟩
          | none => none
        | none => none
      | none => none
    | none => none
  | .round l args =>
    match h.get l with
    | some (.loop _ _ fn tmps params assign body _) =>
      if Nat.beq args.length params.length then
        match ih (.code assign ⟨fn, setPs params args tmps, [], some l⟩) h with
        | some ⟨.normal, a1, h1⟩ =>
          match h1.get l with
          | some (.loop .ready pend fn1 tmps1 ps1 as1 bd1 df1) =>
            match ih (.code body a1) (h1.set l (.loop .busy pend fn1 tmps1 ps1 as1 bd1 df1)) with
            | some ⟨e, a2, h3⟩ =>
              match a2.defs, h3.get l with
              | [], some (.loop _ _ fn2 tmps2 ps2 as2 bd2 df2) =>
                let jump : Option Code := match e with
                  | .normal => none
                  | .ret => some .ret
                  | .exit id => some (.exit id)
                some ⟨.ret, ⟨fn, [.bool jump.isNone], [], none⟩, h3.set l (.loop (if jump.isNone then .ready else .done) jump fn2 tmps2 ps2 as2 bd2 df2)⟩
              | _, _ => none
            | none => none
          | _ => none
        | _ => none
      else none
    | _ => none

end

/-- what is known of calls -/
abbrev Ora := FuncId → List Value → AH → Option Out

def stepO (P : Program) (ora : Ora) (ih : Task → AH → Option Out) (t : Task) (h : AH) : Option Out :=
  match t with
  | .call f args => match ora f args h with
    | some out => some out
    | none => stepC P ih (.call f args) h
  | t => stepC P ih t h

/-- The evaluator, with so much fuel, over what is known of calls. -/
def EO (P : Program) (ora : Ora) : Nat → Task → AH → Option Out
  | 0 => fun _ _ => none
  | n + 1 => stepO P ora (EO P ora n)

def noOra : Ora := fun _ _ _ => none

/-- The evaluator, with so much fuel. -/
def E (P : Program) : Nat → Task → AH → Option Out := EO P noOra

end
end Go.Proofs.YtmcmaklilfgdiaaGreat.Ev
