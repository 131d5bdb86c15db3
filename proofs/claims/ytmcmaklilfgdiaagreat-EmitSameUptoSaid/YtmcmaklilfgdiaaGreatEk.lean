/- The machine's steps, for any frame: normal ones, deferred ones, rounds of a range over a function. -/
import Derived.Test.YtmcmaklilfgdiaaGreatEj
namespace Go.Proofs.YtmcmaklilfgdiaaGreat.Ev
open Go Go.RowKit

def mk (b : Frame) (tmps : Array Value) (defers : List Deferred) (todo : List Item) : Frame :=
  { fn := b.fn, tmps := tmps, todo := todo, defers := defers, mode := .run, kind := b.kind, roundOf := b.roundOf }

def putA (t : Array Value) (dst : Option Tmp) (v : Value) : Array Value :=
  match dst with
  | some d => t.setIfInBounds d v
  | none => t

def evalC (t : Array Value) : Operand → Value
  | .tmp i => t.getD i undef
  | .const v => v
  | .global g => .pointer (some ⟨g, 0, none⟩)
  | .func f => .func (.func f) #[] #[]

theorem eval_mk (b : Frame) (t : Array Value) (d : List Deferred) (todo : List Item) : (mk b t d todo).eval = evalC t := by
  funext x; cases x <;> rfl

section moves
variable {P : Program} {b : Frame} {t : Array Value} {d : List Deferred} {k : List Item} {cs : List Frame} {w w' : World}

theorem sk_skip : step P (lone (mk b t d (.code .skip :: k)) cs w) = .next (lone (mk b t d k) cs w) :=
  step_lone_go (by simp [stepG, stepG.exec, mk])
theorem sk_label {l : Nat} : step P (lone (mk b t d (.code (.label l) :: k)) cs w) = .next (lone (mk b t d k) cs w) :=
  step_lone_go (by simp [stepG, stepG.exec, mk])
theorem sk_inBlock {id : Nat} : step P (lone (mk b t d (.inBlock id :: k)) cs w) = .next (lone (mk b t d k) cs w) :=
  step_lone_go (by simp [stepG, stepG.exec, mk])
theorem sk_seq {x y : Code} : step P (lone (mk b t d (.code (.seq x y) :: k)) cs w) = .next (lone (mk b t d (.code x :: .code y :: k)) cs w) :=
  step_lone_go (by simp [stepG, stepG.exec, mk])
theorem sk_cond {c : Operand} {x y : Code} {v : Bool} (h : evalC t c = .bool v) :
    step P (lone (mk b t d (.code (.cond c x y) :: k)) cs w) = .next (lone (mk b t d (.code (if v then x else y) :: k)) cs w) :=
  step_lone_go (by
    have := eval_mk b t d (.code (.cond c x y) :: k)
    simp only [mk] at this
    simp [stepG, stepG.exec, mk, this, h])
theorem sk_block {id : Nat} {c : Code} : step P (lone (mk b t d (.code (.block id c) :: k)) cs w) = .next (lone (mk b t d (.code c :: .inBlock id :: k)) cs w) :=
  step_lone_go (by simp [stepG, stepG.exec, mk])
theorem sk_loop {c : Code} : step P (lone (mk b t d (.code (.loop c) :: k)) cs w) = .next (lone (mk b t d (.code c :: .inLoop c :: k)) cs w) :=
  step_lone_go (by simp [stepG, stepG.exec, mk])
theorem sk_inLoop {c : Code} : step P (lone (mk b t d (.inLoop c :: k)) cs w) = .next (lone (mk b t d (.code c :: .inLoop c :: k)) cs w) :=
  step_lone_go (by simp [stepG, stepG.exec, mk])
theorem sk_exit {id : Nat} {k' : List Item} (h : exitTo id k = some k') : step P (lone (mk b t d (.code (.exit id) :: k)) cs w) = .next (lone (mk b t d k') cs w) :=
  step_lone_go (by simp [stepG, stepG.exec, mk, h])
theorem sk_region {id : Nat} {ops : Array Oper} : step P (lone (mk b t d (.code (.region id ops false) :: k)) cs w) = .next (lone (mk b t d (.inRegion ops (List.range ops.size) :: k)) cs w) :=
  step_lone_go (by simp [stepG, stepG.exec, mk])
theorem sk_region_draw {id : Nat} {ops : Array Oper} :
    step P (lone (mk b t d (.code (.region id ops true) :: k)) cs w) =
      .next (lone (mk b t d (.inRegion ops (Region.schedule (P.follows .mixedOrders) ops (w.tape w.drawn (.order b.fn id))) :: k)) cs w.drew) :=
  step_lone_go (by simp [stepG, stepG.exec, mk, choose, Sem.run, Question.forced, Question.cut])
theorem sk_region_end {ops : Array Oper} : step P (lone (mk b t d (.inRegion ops [] :: k)) cs w) = .next (lone (mk b t d k) cs w) :=
  step_lone_go (by simp [stepG, stepG.exec, mk])

theorem finish_mk (ops : Array Oper) (i : Nat) (rest : List Nat) (v : Value) :
    (mk b t d (.inRegion ops (i :: rest) :: k)).finish v = mk b (putA t ((ops[i]?).bind (·.dst)) v) d (.inRegion ops rest :: k) := by
  cases h : (ops[i]?).bind (·.dst) <;> simp [Frame.finish, mk, putA, h]

theorem sk_op_skip {ops : Array Oper} {i : Nat} {rest : List Nat} (h : ((ops[i]?).map (Region.wanted · (yielded ops t))).getD false = false) :
    step P (lone (mk b t d (.inRegion ops (i :: rest) :: k)) cs w) = .next (lone (mk b (putA t ((ops[i]?).bind (·.dst)) undef) d (.inRegion ops rest :: k)) cs w) := by
  rw [← finish_mk]
  exact step_lone_go (by
    have h' := h
    simp only [mk] at *
    simp [stepG, stepG.exec, h'])

theorem skG_op {ops : Array Oper} {i : Nat} {rest : List Nat} {o : Oper} (ho : ops[i]? = some o) (hw : Region.wanted o (yielded ops t) = true) (hd : b.roundOf = none ∨ ∀ c, o.op ≠ .defer c) :
    stepG P true { frame := mk b t d (.inRegion ops (i :: rest) :: k), callers := cs, status := .running, dying := none } w =
      stepG.apply P true (mk b t d (.inRegion ops (i :: rest) :: k)) cs none (execOp (evalC t) o) w := by
  have hm : stepG.oper P true (mk b t d (.inRegion ops (i :: rest) :: k)) cs none w = stepG.apply P true (mk b t d (.inRegion ops (i :: rest) :: k)) cs none (execOp (evalC t) o) w := by
    have he := eval_mk b t d (.inRegion ops (i :: rest) :: k)
    have hop : (mk b t d (.inRegion ops (i :: rest) :: k)).oper? = some o := by simp [Frame.oper?, mk, ho]
    have hro : (mk b t d (.inRegion ops (i :: rest) :: k)).roundOf = b.roundOf := rfl
    generalize mk b t d (.inRegion ops (i :: rest) :: k) = fr at he hop hro
    unfold stepG.oper
    rw [hop]
    simp only []
    rw [hro, he]
    rcases hd with hd | hd
    · rw [hd]
    · cases hb : b.roundOf with
      | none => rfl
      | some l =>
        split
        · rename_i hx; exact absurd hx (hd _)
        · rfl
  rw [← hm]
  simp [stepG, stepG.exec, mk, ho, hw]

theorem sk_value {ops : Array Oper} {i : Nat} {rest : List Nat} {o : Oper} {v : Value} (ho : ops[i]? = some o) (hw : Region.wanted o (yielded ops t) = true) (hd : b.roundOf = none ∨ ∀ c, o.op ≠ .defer c)
    (hr : (execOp (evalC t) o).run P w = .ok (.value v) w') :
    step P (lone (mk b t d (.inRegion ops (i :: rest) :: k)) cs w) = .next (lone (mk b (putA t o.dst v) d (.inRegion ops rest :: k)) cs w') := by
  have hf := finish_mk (b := b) (t := t) (d := d) (k := k) ops i rest v
  rw [ho] at hf
  refine step_lone_go ?_
  rw [skG_op ho hw hd]
  simp only [Option.bind_some] at hf
  rw [← hf]
  simp [stepG.apply, hr]

theorem sk_noval {ops : Array Oper} {i : Nat} {rest : List Nat} {o : Oper} (ho : ops[i]? = some o) (hw : Region.wanted o (yielded ops t) = true) (hd : b.roundOf = none ∨ ∀ c, o.op ≠ .defer c)
    (hr : (execOp (evalC t) o).run P w = .ok .skip w') :
    step P (lone (mk b t d (.inRegion ops (i :: rest) :: k)) cs w) = .next (lone (mk b (putA t o.dst undef) d (.inRegion ops rest :: k)) cs w') := by
  have hf := finish_mk (b := b) (t := t) (d := d) (k := k) ops i rest undef
  rw [ho] at hf
  refine step_lone_go ?_
  rw [skG_op ho hw hd]
  simp only [Option.bind_some] at hf
  rw [← hf]
  simp [stepG.apply, hr]

theorem sk_enter {ops : Array Oper} {i : Nat} {rest : List Nat} {o : Oper} {f : FuncId} {args : Array Value} (ho : ops[i]? = some o) (hw : Region.wanted o (yielded ops t) = true) (hd : b.roundOf = none ∨ ∀ c, o.op ≠ .defer c)
    (hr : (execOp (evalC t) o).run P w = .ok (.enter f args) w') :
    step P (lone (mk b t d (.inRegion ops (i :: rest) :: k)) cs w) = .next (lone (Frame.enter P f args .normal) (mk b t d (.inRegion ops (i :: rest) :: k) :: cs) w') := by
  refine step_lone_go ?_
  rw [skG_op ho hw hd]
  simp [stepG.apply, hr, mk]

theorem sk_round {ops : Array Oper} {i : Nat} {rest : List Nat} {o : Oper} {l : Nat} {f : FuncId} {tm : Array Value} {as bd : Code} (ho : ops[i]? = some o) (hw : Region.wanted o (yielded ops t) = true) (hd : b.roundOf = none ∨ ∀ c, o.op ≠ .defer c)
    (hr : (execOp (evalC t) o).run P w = .ok (.round l f tm as bd) w') :
    step P (lone (mk b t d (.inRegion ops (i :: rest) :: k)) cs w) = .next (lone (Frame.round l f tm as bd .normal) (mk b t d (.inRegion ops (i :: rest) :: k) :: cs) w') := by
  refine step_lone_go ?_
  rw [skG_op ho hw hd]
  simp [stepG.apply, hr]

theorem sk_defer {ops : Array Oper} {i : Nat} {rest : List Nat} {o : Oper} {df : Deferred} (ho : ops[i]? = some o) (hw : Region.wanted o (yielded ops t) = true) (hd : b.roundOf = none)
    (hr : (execOp (evalC t) o).run P w = .ok (.defer df) w') :
    step P (lone (mk b t d (.inRegion ops (i :: rest) :: k)) cs w) = .next (lone (mk b (putA t o.dst undef) (df :: d) (.inRegion ops rest :: k)) cs w') := by
  have hf := finish_mk (b := b) (t := t) (d := df :: d) (k := k) ops i rest undef
  rw [ho] at hf
  refine step_lone_go ?_
  rw [skG_op ho hw (.inl hd)]
  simp only [Option.bind_some] at hf
  rw [← hf]
  simp [stepG.apply, hr, mk]

def CsOk (b : Frame) (cs : List Frame) : Prop := b.kind = .normal ∨ (b.kind = .deferred ∧ ∃ c r, cs = c :: r ∧ c.mode = .returning)

theorem sk_recover {ops : Array Oper} {i : Nat} {rest : List Nat} {o : Oper} (ho : ops[i]? = some o) (hw : Region.wanted o (yielded ops t) = true) (hd : b.roundOf = none) (hc : CsOk b cs)
    (hr : (execOp (evalC t) o).run P w = .ok .recover w') :
    step P (lone (mk b t d (.inRegion ops (i :: rest) :: k)) cs w) = .next (lone (mk b (putA t o.dst .nilIface) d (.inRegion ops rest :: k)) cs w') := by
  have hf := finish_mk (b := b) (t := t) (d := d) (k := k) ops i rest .nilIface
  rw [ho] at hf
  refine step_lone_go ?_
  rw [skG_op ho hw (.inl hd)]
  simp only [Option.bind_some] at hf
  rw [← hf]
  have ht : tryRecover (mk b t d (.inRegion ops (i :: rest) :: k)) cs = none := by
    unfold tryRecover
    rcases hc with hc | ⟨hc, c, r, rfl, hm⟩
    · simp [mk, hc]
    · simp [mk, hc, hm]
  have hro : (mk b t d (.inRegion ops (i :: rest) :: k)).roundOf = none := hd
  simp [stepG.apply, hr, hro, ht]

/-- a frame that goes back -/
def back (fn : FuncId) (kind : CallKind) (t : Array Value) (d : List Deferred) (todo : List Item) : Frame :=
  { fn := fn, tmps := t, todo := todo, defers := d, mode := .returning, kind := kind, roundOf := none }

theorem sk_ret (hb : b.roundOf = none) : step P (lone (mk b t d (.code .ret :: k)) cs w) = .next (lone (back b.fn b.kind t d (.code .ret :: k)) cs w) :=
  step_lone_go (by simp [stepG, stepG.exec, mk, back, hb])
theorem sk_end (hb : b.roundOf = none) : step P (lone (mk b t d []) cs w) = .next (lone (back b.fn b.kind t d []) cs w) :=
  step_lone_go (by simp [stepG, stepG.exec, mk, back, hb])

theorem sk_collected {fn : FuncId} {kind : CallKind} {blk : Nat} {todo : List Item} (hblk : w.heap[blk]? = some (.deferred (some []))) :
    step P (lone (back fn kind t ({ target := .collected blk, args := #[] } :: d) todo) cs w) =
      .next (lone (back fn kind t d todo) cs { w with heap := w.heap.setIfInBounds blk (.deferred none) }) := by
  have hr : (Instr.takeDeferred blk).run P w = .ok [] { w with heap := w.heap.setIfInBounds blk (.deferred none) } := by
    simp [Instr.takeDeferred, getObj, setObj, Sem.run, hblk]
  exact step_lone_go (by simp [stepG, unwind, back, hr])

theorem sk_deferred {fn g : FuncId} {kind : CallKind} {args cap : Array Value} {todo : List Item} {f : Func} (hf : P.funcs[g]? = some f) (hn : (f.name == "runtime.NumGoroutine") = false) (hb : f.body.isNone = false) :
    step P (lone (back fn kind t ({ target := .fn (.func g) cap, args := args } :: d) todo) cs w) =
      .next (lone (Frame.enter P g (args ++ cap) .deferred) (back fn kind t d todo :: cs) w) := by
  have hr : (invoke (.fn (.func g) cap) args).run P w = .ok (.enter g (args ++ cap)) w := by
    simp only [invoke, callFunc, Sem.run_bind, run_program, Result.andThen_ok, hf, hn, Bool.false_eq_true, if_false, hb, Sem.run_pure]
  exact step_lone_go (by simp [stepG, unwind, back, callDeferred, hr])

theorem sk_deferred_back {fr c : Frame} (hm : fr.mode = .returning) (hd : fr.defers = []) (hk : fr.kind = .deferred) (hc : c.mode = .returning) {fn : Func} (hf : P.funcs[fr.fn]? = some fn) {v : Value} (hr : (results fn fr.tmps).run P w = .ok v w) :
    step P (lone fr (c :: cs) w) = .next (lone c cs w) :=
  step_lone_go (by simp [stepG, unwind, doReturn, hm, hd, hk, hf, hr, hc])

end moves
end Go.Proofs.YtmcmaklilfgdiaaGreat.Ev
