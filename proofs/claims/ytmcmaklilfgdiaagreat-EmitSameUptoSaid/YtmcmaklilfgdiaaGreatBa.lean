/- What all runs of this seat use. -/
import Derived.Test.YtmcmaklilfgdiaaGreatTy
import Derived.Test.YtmcmaklilfgdiaaGreatChecked
import Derived.Eval
import Derived.IntWalk
namespace Go.Proofs.YtmcmaklilfgdiaaGreat
open Go Go.RowKit Ev

/-- a module's fields, as its cells hold them -/
abbrev cellsM (m : GModule) : List Value := [encL 2 encFT m.types, encL 9 encImp m.imports, encL 3 encFn m.funcs, encL 3 encLim m.tables, encL 3 encLim m.memories, encL 3 encCell m.globals, encL 3 encExp m.exports, .bool m.starts, u32 m.start, encL 3 encElem m.elems, encL 3 encData m.datas]
abbrev ptrV (i : Nat) : Value := .pointer (some ⟨i, 0, none⟩)

abbrev nilV : Value := .slice none 0 0
abbrev zerosM : List Value := [nilV, nilV, nilV, nilV, nilV, nilV, nilV, .bool false, u32 0, nilV, nilV]
/-- a module's cells, of which some are lists that blocks own -/
abbrev grownM (m : GModule) (types imports funcs globals exports elems datas : Value) : List Value := [types, imports, funcs, encL 3 encLim m.tables, encL 3 encLim m.memories, globals, exports, .bool m.starts, u32 m.start, elems, datas]
/-- cells that are lists of their own, by function and loop -/
def ownX (f l : Nat) : List (Nat × Nat) :=
  if f = 10 then
    if l = 3 then [(3 + 4096, 2)] else if l = 8 then [(3 + 4096 * 2, 9)] else if l = 13 then [(3 + 4096 * 7, 3)] else if l = 18 then [(3 + 4096 * 3, 3)]
    else if l = 23 then [(3 + 4096 * 6, 3)] else if l = 28 then [(3 + 4096 * 10, 3)] else if l = 33 then [(3 + 4096 * 11, 3)] else []
  else []

theorem noGoP : noGo Tryz.prog := by
  have h : (Tryz.prog.funcs.toList.all fun fn => !(fn.name == "runtime.NumGoroutine")) = true := by kernel_rfl
  intro f fn hf
  have hm : fn ∈ Tryz.prog.funcs.toList := by
    have := Array.mem_of_getElem? hf
    simpa using this
  simpa using List.all_eq_true.1 h fn hm
theorem mixedP : Tryz.prog.follows .mixedOrders = true := Checked.mixed Tryz.checked

theorem bif_t {b : Bool} {X Y : Prop} (h : b = true) (x : X) : bif b then X else Y := by subst h; exact x
theorem bif_f {b : Bool} {X Y : Prop} (h : b = false) (y : Y) : bif b then X else Y := by subst h; exact y
theorem bif_c {b : Bool} {X Y : Prop} (x : b = true → X) (y : b = false → Y) : bif b then X else Y := by
  cases b with
  | true => exact x rfl
  | false => exact y rfl
/-- an index is in its bounds -/
theorem inb {k n : Nat} (h : k < n) : (decide (0 ≤ (k : Int)) && decide ((k : Int) < (n : Int))) = true := by
  simp; omega
theorem ltT {k n : Nat} (h : k < n) : decide ((k : Int) < (n : Int)) = true := by simp; omega
theorem ltF {n : Nat} : decide ((n : Int) < (n : Int)) = false := by simp
theorem getX {α : Type} (enc : α → Value) (pre suf : List α) (x : α) : (List.map enc (pre ++ x :: suf))[Int.toNat (pre.length : Int)]? = some (enc x) := by
  simp
theorem wrapI {x : Int} (h1 : -9223372036854775808 ≤ x) (h2 : x ≤ 9223372036854775807) : IntKind.wrap IntKind.i64 x = x := IntWalk.i64_in x ⟨h1, h2⟩
theorem wrapS {k : Nat} (h : k + 1 ≤ 9223372036854775807) : IntKind.wrap IntKind.i64 ((k : Int) + 1) = ((k + 1 : Nat) : Int) := by
  rw [wrapI (by omega) (by omega)]; rfl
end Go.Proofs.YtmcmaklilfgdiaaGreat
