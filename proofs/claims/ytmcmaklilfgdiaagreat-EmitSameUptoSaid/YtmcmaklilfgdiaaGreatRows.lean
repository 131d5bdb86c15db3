/-
  NARROWER THAN 'FOR EVERY INPUT', by the rows' own cells (each row's printed sentence says how): EmitModules: loops · EmitSame: loops · EmitBack: loops.
  DERIVED. THE GIVEN ROWS OF THIS SEAT. 3 by the template 'for every input the law returns true; each argument reads behind the call as it read before'; 0 by the template 'total and deterministic' (their statements: YtmcmaklilfgdiaaGreatTotals.lean).
  GIVEN WITH THE SEED: the statements are not yours to turn. If you find one false, say at which input.
  Laid BY PROGRAM, IN A SANDBOX (cutbox-rows.mjs): the forced cells as the released guide's own fill.sh prints them over the translation b2bc97fc92ea3bd5… (all of the seat's roots in one cut). By AI agents, Wed Nov 11 2026. No macro, syntax, notation, axiom, sorry.
-/
import Derived.Test.YtmcmaklilfgdiaaGreatChecked
import GoSem.Claim
import GoSem.ClaimJoined
import GoSem.ClaimMapViews
import Derived.JoinedTies
import Derived.KernelRfl
namespace Go.Proofs.YtmcmaklilfgdiaaGreat
/- THE CELL 'sum', in the pinned program and in every row, IS THE sha256 OF THE DUMP (.gsa) THAT YtmcmaklilfgdiaaGreatProg.lean LOADS. Nothing in Lean hashes anything: it is a label: what it is worth is what the hold of that sum in a sandbox is worth. -/
noncomputable def Tryz.pinned : Pinned := { name := "ytmcmaklilfgdiaagreat", sum := "b2bc97fc92ea3bd58bd840b38f93cfa20d8148ba3fbbb4a0c2ee14e7277fcf53", checked := Tryz.checked }
namespace Rows
def none {H : Type} : Left H := { results := [], args := [] }

/-- 'trunnionlaw21.EmitModules': WHATEVER THE INPUT: true; the input reads as it did. -/
def emitModulesSpec : ChangeSpec := { name := "emitModules", fn := fun _ => fun
  | [d] => { results := [.lit (.bool true)], args := [d] }
  | _ => none }
def emitModulesRow : OpenClaim := { program := "ytmcmaklilfgdiaagreat", sum := "b2bc97fc92ea3bd58bd840b38f93cfa20d8148ba3fbbb4a0c2ee14e7277fcf53", func := "trunnion/trunnionlaw21.EmitModules", spec := "emitModules", unfollowed := true, recurses := true, loops := true, apart := false }
def EmitModulesSaid : Prop := emitModulesRow.holds Tryz.pinned (OpenSpec.ofChange emitModulesSpec)

/-- ITS FALSE NEIGHBOUR: 'it returns false'. Refute it at one input. -/
def emitModulesWrong : ChangeSpec := { name := "emitModules", fn := fun _ => fun
  | [d] => { results := [.lit (.bool false)], args := [d] }
  | _ => none }
def EmitModulesWrongFalsely : Prop := emitModulesRow.holds Tryz.pinned (OpenSpec.ofChange emitModulesWrong)

/-- 'trunnionlaw21.EmitSame': WHATEVER THE INPUT: true; the input reads as it did. -/
def emitSameSpec : ChangeSpec := { name := "emitSame", fn := fun _ => fun
  | [d1, d2] => { results := [.lit (.bool true)], args := [d1, d2] }
  | _ => none }
def emitSameRow : OpenClaim := { program := "ytmcmaklilfgdiaagreat", sum := "b2bc97fc92ea3bd58bd840b38f93cfa20d8148ba3fbbb4a0c2ee14e7277fcf53", func := "trunnion/trunnionlaw21.EmitSame", spec := "emitSame", unfollowed := true, recurses := true, loops := true, apart := false }
def EmitSameSaid : Prop := emitSameRow.holds Tryz.pinned (OpenSpec.ofChange emitSameSpec)

/-- ITS FALSE NEIGHBOUR: 'it returns false'. Refute it at one input. -/
def emitSameWrong : ChangeSpec := { name := "emitSame", fn := fun _ => fun
  | [d1, d2] => { results := [.lit (.bool false)], args := [d1, d2] }
  | _ => none }
def EmitSameWrongFalsely : Prop := emitSameRow.holds Tryz.pinned (OpenSpec.ofChange emitSameWrong)

/-- 'trunnionlaw21.EmitBack': WHATEVER THE INPUT: true; the input reads as it did. -/
def emitBackSpec : ChangeSpec := { name := "emitBack", fn := fun _ => fun
  | [d1, d2] => { results := [.lit (.bool true)], args := [d1, d2] }
  | _ => none }
def emitBackRow : OpenClaim := { program := "ytmcmaklilfgdiaagreat", sum := "b2bc97fc92ea3bd58bd840b38f93cfa20d8148ba3fbbb4a0c2ee14e7277fcf53", func := "trunnion/trunnionlaw21.EmitBack", spec := "emitBack", unfollowed := true, recurses := true, loops := true, apart := false }
def EmitBackSaid : Prop := emitBackRow.holds Tryz.pinned (OpenSpec.ofChange emitBackSpec)

/-- ITS FALSE NEIGHBOUR: 'it returns false'. Refute it at one input. -/
def emitBackWrong : ChangeSpec := { name := "emitBack", fn := fun _ => fun
  | [d1, d2] => { results := [.lit (.bool false)], args := [d1, d2] }
  | _ => none }
def EmitBackWrongFalsely : Prop := emitBackRow.holds Tryz.pinned (OpenSpec.ofChange emitBackWrong)

/- THE SECOND FORM. 'bulk': how many values and letters a reading holds, each counted each time it is reached (what is shared counts as often as it is met; a slice's spare places count too). A statement '..UptoSaid' is the law's where the arguments, and the package variables that the reading takes, are together of bulk at most 1048576: NARROWER than '..Said'. Prove '..Said' where nothing that the law and all that it calls make is longer than what came in: it says more and counts as full. Else prove '..UptoSaid'. A law counts once. -/
mutual
def uptoBulk {H : Type} : DataW H → Nat
  | .lit (.string bytes) => bytes.length + 1
  | .lit _ => 1
  | .nil => 1
  | .ptr d => uptoBulk d + 1
  | .slice elems spare => uptoBulkAll elems + uptoBulkAll spare + 1
  | .agg parts => uptoBulkAll parts + 1
  | .iface _ d => uptoBulk d + 1
  | .map entries => uptoBulkEntries entries + 1
  | .held _ => 1
def uptoBulkAll {H : Type} : List (DataW H) → Nat
  | [] => 0
  | d :: r => uptoBulk d + uptoBulkAll r
def uptoBulkEntries {H : Type} : List (Lit × DataW H) → Nat
  | [] => 0
  | x :: r => uptoBulkEntry x + uptoBulkEntries r
def uptoBulkEntry {H : Type} : Lit × DataW H → Nat
  | (.string bytes, d) => bytes.length + uptoBulk d + 1
  | (_, d) => uptoBulk d + 1
 end
def uptoSmall : (H : Type) → List (DataW H) → Bool := fun _ ds => decide (uptoBulkAll ds ≤ 1048576)
def OpenSpec.upto (s : _root_.Go.ChangeSpec) : _root_.Go.OpenSpec := { _root_.Go.OpenSpec.ofChange s with cond := some uptoSmall }

/-- 'trunnionlaw21.EmitModules', WHERE WHAT IT READS IS OF BULK AT MOST 1048576: true; the input reads as it did. -/
def emitModulesUptoRow : OpenClaim := { program := "ytmcmaklilfgdiaagreat", sum := "b2bc97fc92ea3bd58bd840b38f93cfa20d8148ba3fbbb4a0c2ee14e7277fcf53", func := "trunnion/trunnionlaw21.EmitModules", spec := "emitModules", unfollowed := true, recurses := true, loops := true, apart := false, narrowed := true }
def EmitModulesUptoSaid : Prop := emitModulesUptoRow.holds Tryz.pinned (OpenSpec.upto emitModulesSpec)

/-- 'trunnionlaw21.EmitSame', WHERE WHAT IT READS IS OF BULK AT MOST 1048576: true; the input reads as it did. -/
def emitSameUptoRow : OpenClaim := { program := "ytmcmaklilfgdiaagreat", sum := "b2bc97fc92ea3bd58bd840b38f93cfa20d8148ba3fbbb4a0c2ee14e7277fcf53", func := "trunnion/trunnionlaw21.EmitSame", spec := "emitSame", unfollowed := true, recurses := true, loops := true, apart := false, narrowed := true }
def EmitSameUptoSaid : Prop := emitSameUptoRow.holds Tryz.pinned (OpenSpec.upto emitSameSpec)

/-- 'trunnionlaw21.EmitBack', WHERE WHAT IT READS IS OF BULK AT MOST 1048576: true; the input reads as it did. -/
def emitBackUptoRow : OpenClaim := { program := "ytmcmaklilfgdiaagreat", sum := "b2bc97fc92ea3bd58bd840b38f93cfa20d8148ba3fbbb4a0c2ee14e7277fcf53", func := "trunnion/trunnionlaw21.EmitBack", spec := "emitBack", unfollowed := true, recurses := true, loops := true, apart := false, narrowed := true }
def EmitBackUptoSaid : Prop := emitBackUptoRow.holds Tryz.pinned (OpenSpec.upto emitBackSpec)

end Rows
end Go.Proofs.YtmcmaklilfgdiaaGreat
