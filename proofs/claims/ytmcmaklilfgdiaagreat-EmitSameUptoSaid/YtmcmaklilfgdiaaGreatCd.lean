/- Instructions, parts and modules compared, as the program does it. -/
import Derived.Test.YtmcmaklilfgdiaaGreatCc
namespace Go.Proofs.YtmcmaklilfgdiaaGreat
open Go Go.RowKit Ev

/-- few bytes -/
def okB (l : List Int) : Prop := l.length ≤ 1048576 ∧ ∀ x ∈ l, 0 ≤ x ∧ x ≤ 255
structure OkFT (x : GFuncType) : Prop where
  p : okB x.params
  r : okB x.results
structure OkFn (x : GFn) : Prop where
  l : okB x.locals
  b : wIs x.body ≤ 1048576
structure OkElem (x : GElem) : Prop where
  o : wIs x.offset ≤ 1048576
  f : x.funcs.length ≤ 1048576
structure OkData (x : GData) : Prop where
  o : wIs x.offset ≤ 1048576
  b : okB x.bytes
structure OkM (m : GModule) : Prop where
  types : m.types.length ≤ 1048576 ∧ ∀ x ∈ m.types, OkFT x
  imports : m.imports.length ≤ 1048576
  funcs : m.funcs.length ≤ 1048576 ∧ ∀ x ∈ m.funcs, OkFn x
  tables : m.tables.length ≤ 1048576
  memories : m.memories.length ≤ 1048576
  globals : m.globals.length ≤ 1048576 ∧ ∀ x ∈ m.globals, wIs x.init ≤ 1048576
  exports : m.exports.length ≤ 1048576
  elems : m.elems.length ≤ 1048576 ∧ ∀ x ∈ m.elems, OkElem x
  datas : m.datas.length ≤ 1048576 ∧ ∀ x ∈ m.datas, OkData x

theorem instrB (x y : Instr) : eqB x y = (decide (x.op = y.op) && (decide (x.ty = y.ty) && (decide (x.a = y.a) && (decide (x.b = y.b) && (decide (x.bits = y.bits) && ((x.has == y.has) && (eqB x.list y.list && (eqB x.then_ y.then_ && eqB x.else_ y.else_)))))))) := by
  rw [Bool.eq_iff_iff]
  simp only [Bool.and_eq_true, eqB_iff, decide_eq_true_eq, beq_iff_eq]
  cases x; cases y
  simp only [Instr.op, Instr.ty, Instr.a, Instr.b, Instr.bits, Instr.list, Instr.then_, Instr.else_, Instr.has, Instr.mk.injEq]
  constructor <;> (intro h; simp [h])
theorem ftB (x y : GFuncType) : eqB x y = (eqB x.params y.params && eqB x.results y.results) := by
  cases x; cases y; rw [Bool.eq_iff_iff]; simp [eqB]
theorem cellB (x y : GCell) : eqB x y = ((x.value == y.value && (x.mut_ == y.mut_ && true)) && eqB x.init y.init) := by
  cases x; cases y; rw [Bool.eq_iff_iff]; simp [eqB, and_assoc]
theorem fnB (x y : GFn) : eqB x y = (decide (x.ty = y.ty) && (eqB x.locals y.locals && eqB x.body y.body)) := by
  cases x; cases y; rw [Bool.eq_iff_iff]; simp [eqB]
theorem elemB (x y : GElem) : eqB x y = (decide (x.table = y.table) && (eqB x.offset y.offset && eqB x.funcs y.funcs)) := by
  cases x; cases y; rw [Bool.eq_iff_iff]; simp [eqB]
theorem dataB (x y : GData) : eqB x y = (decide (x.memory = y.memory) && (eqB x.offset y.offset && eqB x.bytes y.bytes)) := by
  cases x; cases y; rw [Bool.eq_iff_iff]; simp [eqB]
theorem modB (x y : GModule) : eqB x y = ((x.starts == y.starts) && (decide (x.start = y.start) && (eqB x.types y.types && (eqB x.imports y.imports && (eqB x.exports y.exports && (eqB x.tables y.tables && (eqB x.memories y.memories && (eqB x.globals y.globals && (eqB x.funcs y.funcs && (eqB x.elems y.elems && eqB x.datas y.datas)))))))))) := by
  cases x; cases y; rw [Bool.eq_iff_iff]; simp [eqB]
  constructor <;> (intro h; simp [h])

theorem nT {b : Bool} (h : (!b) = true) : b = false := by simpa using h
theorem nF {b : Bool} (h : (!b) = false) : b = true := by simpa using h
/-- a test of a field: where it fails, the answer is no -/
theorem by_n {Q : Value → List ABlk → Prop} {c rest : Bool} {Y : Prop} (hq : (c && rest) = false → Q (.bool false) []) (hy : c = true → Y) : bif !c then Q (.bool false) [] else Y := by
  cases c with
  | false => exact hq rfl
  | true => exact hy rfl
theorem by_p {Q : Value → List ABlk → Prop} {c rest : Bool} {Y : Prop} (hq : (c && rest) = false → Q (.bool false) []) (hy : c = true → Y) : bif c then Y else Q (.bool false) [] := by
  cases c with
  | false => exact hq rfl
  | true => exact hy rfl

theorem qk (b c : Bool) (h : b = c) : QK (.bool c) (.bool b) [] := ⟨by rw [h], rfl⟩

theorem eq107 (x y : Instr) (hl : x.list.length ≤ 1048576) (ht : K1 Tryz.prog gs 52 [encL 9 encI x.then_, encL 9 encI y.then_] (.bool (eqB x.then_ y.then_))) (he : K1 Tryz.prog gs 52 [encL 9 encI x.else_, encL 9 encI y.else_] (.bool (eqB x.else_ y.else_))) :
    K1 Tryz.prog gs 107 [opnI x, opnI y] (.bool (eqB x y)) := by
  refine K1_of (T := tab107) (c := bodyOf Tryz.f107) mixedP noGoP Tryz.func107 (by kernel_rfl) 4000 ?_
  rw [show ([opnI x, opnI y] : List Value).length = 2 from rfl, t107, instrB]
  refine by_n (qk _ _ ∘ Eq.symm) fun h1 => ?_
  rw [h1, Bool.true_and]
  refine by_n (qk _ _ ∘ Eq.symm) fun h1 => ?_
  rw [h1, Bool.true_and]
  refine by_n (qk _ _ ∘ Eq.symm) fun h1 => ?_
  rw [h1, Bool.true_and]
  refine by_n (qk _ _ ∘ Eq.symm) fun h1 => ?_
  rw [h1, Bool.true_and]
  refine by_n (qk _ _ ∘ Eq.symm) fun h1 => ?_
  rw [h1, Bool.true_and]
  refine by_n (qk _ _ ∘ Eq.symm) fun h1 => ?_
  rw [h1, Bool.true_and]
  refine ⟨_, eq95 _ _ hl, by_p (qk _ _ ∘ Eq.symm) fun h1 => ?_⟩
  rw [h1, Bool.true_and]
  refine ⟨_, ht, by_p (qk _ _ ∘ Eq.symm) fun h1 => ?_⟩
  rw [h1, Bool.true_and]
  exact ⟨_, he, qk _ _ rfl⟩
theorem eq52 (a b : List Instr) (h : wIs a ≤ 1048576) : K1 Tryz.prog gs 52 [encL 9 encI a, encL 9 encI b] (.bool (eqB a b)) := by
  refine K1_of (T := tab52) (c := bodyOf Tryz.f52) mixedP noGoP Tryz.func52 (by kernel_rfl) 4000 ?_
  rw [show ([encL 9 encI a, encL 9 encI b] : List Value).length = 2 from rfl, t52]
  have hl := wIs_len a
  refine ⟨_, eq106 a b (by omega) (fun x hx y _ => ?_), qk _ _ rfl⟩
  have h1 := wIs_mem hx
  have h2 := wI_eq x
  exact eq107 x y (by omega) (eq52 x.then_ y.then_ (by omega)) (eq52 x.else_ y.else_ (by omega))
  termination_by wIs a

theorem eq29 (x y : GFuncType) (h : OkFT x) : K1 Tryz.prog gs 29 [encFT x, encFT y] (.bool (eqB x y)) := by
  refine K1_of (T := tab29) (c := bodyOf Tryz.f29) mixedP noGoP Tryz.func29 (by kernel_rfl) 4000 ?_
  rw [show ([encFT x, encFT y] : List Value).length = 2 from rfl, t29, ftB]
  refine ⟨_, eq94 _ _ h.p.1, by_p (qk _ _ ∘ Eq.symm) fun h1 => ?_⟩
  rw [h1, Bool.true_and]
  exact ⟨_, eq94 _ _ h.r.1, qk _ _ rfl⟩
theorem eq34 (x y : GCell) (h : wIs x.init ≤ 1048576) : K1 Tryz.prog gs 34 [encCell x, encCell y] (.bool (eqB x y)) := by
  refine K1_of (T := tab34) (c := bodyOf Tryz.f34) mixedP noGoP Tryz.func34 (by kernel_rfl) 4000 ?_
  rw [show ([encCell x, encCell y] : List Value).length = 2 from rfl, t34, cellB]
  refine by_p (qk _ _ ∘ Eq.symm) fun h1 => ?_
  rw [h1, Bool.true_and]
  exact ⟨_, eq52 _ _ h, qk _ _ rfl⟩
theorem eq36 (x y : GFn) (h : OkFn x) : K1 Tryz.prog gs 36 [encFn x, encFn y] (.bool (eqB x y)) := by
  refine K1_of (T := tab36) (c := bodyOf Tryz.f36) mixedP noGoP Tryz.func36 (by kernel_rfl) 4000 ?_
  rw [show ([encFn x, encFn y] : List Value).length = 2 from rfl, t36, fnB]
  refine by_p (qk _ _ ∘ Eq.symm) fun h1 => ?_
  rw [h1, Bool.true_and]
  refine ⟨_, eq94 _ _ h.l.1, by_p (qk _ _ ∘ Eq.symm) fun h1 => ?_⟩
  rw [h1, Bool.true_and]
  exact ⟨_, eq52 _ _ h.b, qk _ _ rfl⟩
theorem eq38 (x y : GElem) (h : OkElem x) : K1 Tryz.prog gs 38 [encElem x, encElem y] (.bool (eqB x y)) := by
  refine K1_of (T := tab38) (c := bodyOf Tryz.f38) mixedP noGoP Tryz.func38 (by kernel_rfl) 4000 ?_
  rw [show ([encElem x, encElem y] : List Value).length = 2 from rfl, t38, elemB]
  refine by_p (qk _ _ ∘ Eq.symm) fun h1 => ?_
  rw [h1, Bool.true_and]
  refine ⟨_, eq52 _ _ h.o, by_p (qk _ _ ∘ Eq.symm) fun h1 => ?_⟩
  rw [h1, Bool.true_and]
  exact ⟨_, eq95 _ _ h.f, qk _ _ rfl⟩
theorem eq40 (x y : GData) (h : OkData x) : K1 Tryz.prog gs 40 [encData x, encData y] (.bool (eqB x y)) := by
  refine K1_of (T := tab40) (c := bodyOf Tryz.f40) mixedP noGoP Tryz.func40 (by kernel_rfl) 4000 ?_
  rw [show ([encData x, encData y] : List Value).length = 2 from rfl, t40, dataB]
  refine by_p (qk _ _ ∘ Eq.symm) fun h1 => ?_
  rw [h1, Bool.true_and]
  refine ⟨_, eq52 _ _ h.o, by_p (qk _ _ ∘ Eq.symm) fun h1 => ?_⟩
  rw [h1, Bool.true_and]
  exact ⟨_, eq94 _ _ h.b.1, qk _ _ rfl⟩

/-- what Same answers -/
theorem eq11 (x y : GModule) (h : OkM x) : K1 Tryz.prog gs 11 [encM x, encM y] (.bool (eqB x y)) := by
  refine K1_of (T := tab11) (c := bodyOf Tryz.f11) mixedP noGoP Tryz.func11 (by kernel_rfl) 4000 ?_
  rw [show ([encM x, encM y] : List Value).length = 2 from rfl, t11, modB]
  refine by_n (qk _ _ ∘ Eq.symm) fun h1 => ?_
  rw [h1, Bool.true_and]
  refine by_n (qk _ _ ∘ Eq.symm) fun h1 => ?_
  rw [h1, Bool.true_and]
  refine ⟨_, eq28 _ _ h.types.1 (fun x hx y _ => eq29 x y (h.types.2 x hx)), by_n (qk _ _ ∘ Eq.symm) fun h1 => ?_⟩
  rw [h1, Bool.true_and]
  refine ⟨_, eq30 _ _ h.imports, by_n (qk _ _ ∘ Eq.symm) fun h1 => ?_⟩
  rw [h1, Bool.true_and]
  refine ⟨_, eq31 _ _ h.exports, by_n (qk _ _ ∘ Eq.symm) fun h1 => ?_⟩
  rw [h1, Bool.true_and]
  refine ⟨_, eq32 _ _ h.tables, by_n (qk _ _ ∘ Eq.symm) fun h1 => ?_⟩
  rw [h1, Bool.true_and]
  refine ⟨_, eq32 _ _ h.memories, by_n (qk _ _ ∘ Eq.symm) fun h1 => ?_⟩
  rw [h1, Bool.true_and]
  refine ⟨_, eq33 _ _ h.globals.1 (fun x hx y _ => eq34 x y (h.globals.2 x hx)), by_n (qk _ _ ∘ Eq.symm) fun h1 => ?_⟩
  rw [h1, Bool.true_and]
  refine ⟨_, eq35 _ _ h.funcs.1 (fun x hx y _ => eq36 x y (h.funcs.2 x hx)), by_p (qk _ _ ∘ Eq.symm) fun h1 => ?_⟩
  rw [h1, Bool.true_and]
  refine ⟨_, eq37 _ _ h.elems.1 (fun x hx y _ => eq38 x y (h.elems.2 x hx)), by_p (qk _ _ ∘ Eq.symm) fun h1 => ?_⟩
  rw [h1, Bool.true_and]
  exact ⟨_, eq39 _ _ h.datas.1 (fun x hx y _ => eq40 x y (h.datas.2 x hx)), qk _ _ rfl⟩
end Go.Proofs.YtmcmaklilfgdiaaGreat
