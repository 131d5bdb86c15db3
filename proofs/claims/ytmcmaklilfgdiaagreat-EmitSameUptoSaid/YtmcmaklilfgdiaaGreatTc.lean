/- Symbolic runs, as they were printed. -/
import Derived.Test.YtmcmaklilfgdiaaGreatBa
namespace Go.Proofs.YtmcmaklilfgdiaaGreat
open Go Go.RowKit Ev
def tab28 : Tab := ⟨elemV, conV, fun _ l => match l with | 4 => [1, 2, 15, 16, 17] | _ => [], fun _ l => match l with | 4 => [(15, 2)] | _ => [], 0⟩
theorem t28 (a : List GFuncType) (b : List GFuncType) (Q : Value → List ABlk → Prop) :
    SC tab28 Tryz.prog gs Q 4000 [.code (bodyOf Tryz.f28)] ⟨28, [encL 2 encFT a, encL 2 encFT b, Value.func (Fn.func 29) (Array.mk []) (Array.mk [])] ++ List.replicate (Tryz.f28.ntmps - 3) undef, [], none⟩ (AH.start gs) =
    (
    bif !decide (nI (List.length a) = nI (List.length b)) then
      Q (Value.bool false) []
    else
      LoopG Tryz.prog gs 0 (tab28.live 28 4) (its (bodyOf Tryz.f28) 4) ⟨28, slots 32 [(1, encL 2 encFT b), (2, Value.func (Fn.func 29) (Array.mk []) (Array.mk [])), (15, encL 2 encFT a), (16, i64 (nI (List.length a))), (17, i64 0)], [], none⟩ (mem []) Q) := by kernel_rfl
theorem t28_4 (a : List GFuncType) (b : List GFuncType) (k : Int) (J : Nat → Value) (Q : Value → List ABlk → Prop) :
    SC tab28 Tryz.prog gs Q 4000 (its (bodyOf Tryz.f28) 4) ⟨28, mergeJ (tab28.live 28 4) J 0 (slots 32 [(1, encL 2 encFT b), (2, Value.func (Fn.func 29) (Array.mk []) (Array.mk [])), (15, encL 2 encFT a), (16, i64 (nI (List.length a))), (17, i64 k)]), [], none⟩ (mem []) =
    (
    bif decide (k < nI (List.length a)) then
      bif decide (0 ≤ k) && decide (k < nI (List.length a)) then
        ∃ x1 : GFuncType, ((List.map encFT a)[Int.toNat k]? = some (encFT x1)) ∧
          bif decide (0 ≤ k) && decide (k < nI (List.length b)) then
            ∃ x2 : GFuncType, ((List.map encFT b)[Int.toNat k]? = some (encFT x2)) ∧
              ∃ y3 : Bool, (K1 Tryz.prog gs 29 [Value.agg (Array.mk [encL 1 u8 x1.params, encL 1 u8 x1.results]), Value.agg (Array.mk [encL 1 u8 x2.params, encL 1 u8 x2.results])] (Value.bool y3)) ∧
                bif !y3 then
                  Q (Value.bool false) []
                else
                  LoopG Tryz.prog gs 0 (tab28.live 28 4) (its (bodyOf Tryz.f28) 4) ⟨28, slots 32 [(1, encL 2 encFT b), (2, Value.func (Fn.func 29) (Array.mk []) (Array.mk [])), (15, encL 2 encFT a), (16, i64 (nI (List.length a))), (17, i64 (IntKind.wrap IntKind.i64 (k + 1)))], [], none⟩ (mem []) Q
          else
            False
      else
        False
    else
      Q (Value.bool true) []) := by kernel_rfl
def tab33 : Tab := ⟨elemV, conV, fun _ l => match l with | 4 => [1, 2, 15, 16, 17] | _ => [], fun _ l => match l with | 4 => [(15, 3)] | _ => [], 0⟩
theorem t33 (a : List GCell) (b : List GCell) (Q : Value → List ABlk → Prop) :
    SC tab33 Tryz.prog gs Q 4000 [.code (bodyOf Tryz.f33)] ⟨33, [encL 3 encCell a, encL 3 encCell b, Value.func (Fn.func 34) (Array.mk []) (Array.mk [])] ++ List.replicate (Tryz.f33.ntmps - 3) undef, [], none⟩ (AH.start gs) =
    (
    bif !decide (nI (List.length a) = nI (List.length b)) then
      Q (Value.bool false) []
    else
      LoopG Tryz.prog gs 0 (tab33.live 33 4) (its (bodyOf Tryz.f33) 4) ⟨33, slots 32 [(1, encL 3 encCell b), (2, Value.func (Fn.func 34) (Array.mk []) (Array.mk [])), (15, encL 3 encCell a), (16, i64 (nI (List.length a))), (17, i64 0)], [], none⟩ (mem []) Q) := by kernel_rfl
theorem t33_4 (a : List GCell) (b : List GCell) (k : Int) (J : Nat → Value) (Q : Value → List ABlk → Prop) :
    SC tab33 Tryz.prog gs Q 4000 (its (bodyOf Tryz.f33) 4) ⟨33, mergeJ (tab33.live 33 4) J 0 (slots 32 [(1, encL 3 encCell b), (2, Value.func (Fn.func 34) (Array.mk []) (Array.mk [])), (15, encL 3 encCell a), (16, i64 (nI (List.length a))), (17, i64 k)]), [], none⟩ (mem []) =
    (
    bif decide (k < nI (List.length a)) then
      bif decide (0 ≤ k) && decide (k < nI (List.length a)) then
        ∃ x1 : GCell, ((List.map encCell a)[Int.toNat k]? = some (encCell x1)) ∧
          bif decide (0 ≤ k) && decide (k < nI (List.length b)) then
            ∃ x2 : GCell, ((List.map encCell b)[Int.toNat k]? = some (encCell x2)) ∧
              ∃ y3 : Bool, (K1 Tryz.prog gs 34 [Value.agg (Array.mk [u8 x1.value, Value.bool x1.mut_, encL 9 encI x1.init]), Value.agg (Array.mk [u8 x2.value, Value.bool x2.mut_, encL 9 encI x2.init])] (Value.bool y3)) ∧
                bif !y3 then
                  Q (Value.bool false) []
                else
                  LoopG Tryz.prog gs 0 (tab33.live 33 4) (its (bodyOf Tryz.f33) 4) ⟨33, slots 32 [(1, encL 3 encCell b), (2, Value.func (Fn.func 34) (Array.mk []) (Array.mk [])), (15, encL 3 encCell a), (16, i64 (nI (List.length a))), (17, i64 (IntKind.wrap IntKind.i64 (k + 1)))], [], none⟩ (mem []) Q
          else
            False
      else
        False
    else
      Q (Value.bool true) []) := by kernel_rfl
def tab35 : Tab := ⟨elemV, conV, fun _ l => match l with | 4 => [1, 2, 15, 16, 17] | _ => [], fun _ l => match l with | 4 => [(15, 3)] | _ => [], 0⟩
theorem t35 (a : List GFn) (b : List GFn) (Q : Value → List ABlk → Prop) :
    SC tab35 Tryz.prog gs Q 4000 [.code (bodyOf Tryz.f35)] ⟨35, [encL 3 encFn a, encL 3 encFn b, Value.func (Fn.func 36) (Array.mk []) (Array.mk [])] ++ List.replicate (Tryz.f35.ntmps - 3) undef, [], none⟩ (AH.start gs) =
    (
    bif !decide (nI (List.length a) = nI (List.length b)) then
      Q (Value.bool false) []
    else
      LoopG Tryz.prog gs 0 (tab35.live 35 4) (its (bodyOf Tryz.f35) 4) ⟨35, slots 32 [(1, encL 3 encFn b), (2, Value.func (Fn.func 36) (Array.mk []) (Array.mk [])), (15, encL 3 encFn a), (16, i64 (nI (List.length a))), (17, i64 0)], [], none⟩ (mem []) Q) := by kernel_rfl
theorem t35_4 (a : List GFn) (b : List GFn) (k : Int) (J : Nat → Value) (Q : Value → List ABlk → Prop) :
    SC tab35 Tryz.prog gs Q 4000 (its (bodyOf Tryz.f35) 4) ⟨35, mergeJ (tab35.live 35 4) J 0 (slots 32 [(1, encL 3 encFn b), (2, Value.func (Fn.func 36) (Array.mk []) (Array.mk [])), (15, encL 3 encFn a), (16, i64 (nI (List.length a))), (17, i64 k)]), [], none⟩ (mem []) =
    (
    bif decide (k < nI (List.length a)) then
      bif decide (0 ≤ k) && decide (k < nI (List.length a)) then
        ∃ x1 : GFn, ((List.map encFn a)[Int.toNat k]? = some (encFn x1)) ∧
          bif decide (0 ≤ k) && decide (k < nI (List.length b)) then
            ∃ x2 : GFn, ((List.map encFn b)[Int.toNat k]? = some (encFn x2)) ∧
              ∃ y3 : Bool, (K1 Tryz.prog gs 36 [Value.agg (Array.mk [u32 x1.ty, encL 1 u8 x1.locals, encL 9 encI x1.body]), Value.agg (Array.mk [u32 x2.ty, encL 1 u8 x2.locals, encL 9 encI x2.body])] (Value.bool y3)) ∧
                bif !y3 then
                  Q (Value.bool false) []
                else
                  LoopG Tryz.prog gs 0 (tab35.live 35 4) (its (bodyOf Tryz.f35) 4) ⟨35, slots 32 [(1, encL 3 encFn b), (2, Value.func (Fn.func 36) (Array.mk []) (Array.mk [])), (15, encL 3 encFn a), (16, i64 (nI (List.length a))), (17, i64 (IntKind.wrap IntKind.i64 (k + 1)))], [], none⟩ (mem []) Q
          else
            False
      else
        False
    else
      Q (Value.bool true) []) := by kernel_rfl
def tab37 : Tab := ⟨elemV, conV, fun _ l => match l with | 4 => [1, 2, 15, 16, 17] | _ => [], fun _ l => match l with | 4 => [(15, 3)] | _ => [], 0⟩
theorem t37 (a : List GElem) (b : List GElem) (Q : Value → List ABlk → Prop) :
    SC tab37 Tryz.prog gs Q 4000 [.code (bodyOf Tryz.f37)] ⟨37, [encL 3 encElem a, encL 3 encElem b, Value.func (Fn.func 38) (Array.mk []) (Array.mk [])] ++ List.replicate (Tryz.f37.ntmps - 3) undef, [], none⟩ (AH.start gs) =
    (
    bif !decide (nI (List.length a) = nI (List.length b)) then
      Q (Value.bool false) []
    else
      LoopG Tryz.prog gs 0 (tab37.live 37 4) (its (bodyOf Tryz.f37) 4) ⟨37, slots 32 [(1, encL 3 encElem b), (2, Value.func (Fn.func 38) (Array.mk []) (Array.mk [])), (15, encL 3 encElem a), (16, i64 (nI (List.length a))), (17, i64 0)], [], none⟩ (mem []) Q) := by kernel_rfl
theorem t37_4 (a : List GElem) (b : List GElem) (k : Int) (J : Nat → Value) (Q : Value → List ABlk → Prop) :
    SC tab37 Tryz.prog gs Q 4000 (its (bodyOf Tryz.f37) 4) ⟨37, mergeJ (tab37.live 37 4) J 0 (slots 32 [(1, encL 3 encElem b), (2, Value.func (Fn.func 38) (Array.mk []) (Array.mk [])), (15, encL 3 encElem a), (16, i64 (nI (List.length a))), (17, i64 k)]), [], none⟩ (mem []) =
    (
    bif decide (k < nI (List.length a)) then
      bif decide (0 ≤ k) && decide (k < nI (List.length a)) then
        ∃ x1 : GElem, ((List.map encElem a)[Int.toNat k]? = some (encElem x1)) ∧
          bif decide (0 ≤ k) && decide (k < nI (List.length b)) then
            ∃ x2 : GElem, ((List.map encElem b)[Int.toNat k]? = some (encElem x2)) ∧
              ∃ y3 : Bool, (K1 Tryz.prog gs 38 [Value.agg (Array.mk [u32 x1.table, encL 9 encI x1.offset, encL 1 u32 x1.funcs]), Value.agg (Array.mk [u32 x2.table, encL 9 encI x2.offset, encL 1 u32 x2.funcs])] (Value.bool y3)) ∧
                bif !y3 then
                  Q (Value.bool false) []
                else
                  LoopG Tryz.prog gs 0 (tab37.live 37 4) (its (bodyOf Tryz.f37) 4) ⟨37, slots 32 [(1, encL 3 encElem b), (2, Value.func (Fn.func 38) (Array.mk []) (Array.mk [])), (15, encL 3 encElem a), (16, i64 (nI (List.length a))), (17, i64 (IntKind.wrap IntKind.i64 (k + 1)))], [], none⟩ (mem []) Q
          else
            False
      else
        False
    else
      Q (Value.bool true) []) := by kernel_rfl
def tab39 : Tab := ⟨elemV, conV, fun _ l => match l with | 4 => [1, 2, 15, 16, 17] | _ => [], fun _ l => match l with | 4 => [(15, 3)] | _ => [], 0⟩
theorem t39 (a : List GData) (b : List GData) (Q : Value → List ABlk → Prop) :
    SC tab39 Tryz.prog gs Q 4000 [.code (bodyOf Tryz.f39)] ⟨39, [encL 3 encData a, encL 3 encData b, Value.func (Fn.func 40) (Array.mk []) (Array.mk [])] ++ List.replicate (Tryz.f39.ntmps - 3) undef, [], none⟩ (AH.start gs) =
    (
    bif !decide (nI (List.length a) = nI (List.length b)) then
      Q (Value.bool false) []
    else
      LoopG Tryz.prog gs 0 (tab39.live 39 4) (its (bodyOf Tryz.f39) 4) ⟨39, slots 32 [(1, encL 3 encData b), (2, Value.func (Fn.func 40) (Array.mk []) (Array.mk [])), (15, encL 3 encData a), (16, i64 (nI (List.length a))), (17, i64 0)], [], none⟩ (mem []) Q) := by kernel_rfl
theorem t39_4 (a : List GData) (b : List GData) (k : Int) (J : Nat → Value) (Q : Value → List ABlk → Prop) :
    SC tab39 Tryz.prog gs Q 4000 (its (bodyOf Tryz.f39) 4) ⟨39, mergeJ (tab39.live 39 4) J 0 (slots 32 [(1, encL 3 encData b), (2, Value.func (Fn.func 40) (Array.mk []) (Array.mk [])), (15, encL 3 encData a), (16, i64 (nI (List.length a))), (17, i64 k)]), [], none⟩ (mem []) =
    (
    bif decide (k < nI (List.length a)) then
      bif decide (0 ≤ k) && decide (k < nI (List.length a)) then
        ∃ x1 : GData, ((List.map encData a)[Int.toNat k]? = some (encData x1)) ∧
          bif decide (0 ≤ k) && decide (k < nI (List.length b)) then
            ∃ x2 : GData, ((List.map encData b)[Int.toNat k]? = some (encData x2)) ∧
              ∃ y3 : Bool, (K1 Tryz.prog gs 40 [Value.agg (Array.mk [u32 x1.memory, encL 9 encI x1.offset, encL 1 u8 x1.bytes]), Value.agg (Array.mk [u32 x2.memory, encL 9 encI x2.offset, encL 1 u8 x2.bytes])] (Value.bool y3)) ∧
                bif !y3 then
                  Q (Value.bool false) []
                else
                  LoopG Tryz.prog gs 0 (tab39.live 39 4) (its (bodyOf Tryz.f39) 4) ⟨39, slots 32 [(1, encL 3 encData b), (2, Value.func (Fn.func 40) (Array.mk []) (Array.mk [])), (15, encL 3 encData a), (16, i64 (nI (List.length a))), (17, i64 (IntKind.wrap IntKind.i64 (k + 1)))], [], none⟩ (mem []) Q
          else
            False
      else
        False
    else
      Q (Value.bool true) []) := by kernel_rfl
def tab106 : Tab := ⟨elemV, conV, fun _ l => match l with | 4 => [1, 2, 15, 16, 17] | _ => [], fun _ l => match l with | 4 => [(15, 9)] | _ => [], 0⟩
theorem t106 (a : List Instr) (b : List Instr) (Q : Value → List ABlk → Prop) :
    SC tab106 Tryz.prog gs Q 4000 [.code (bodyOf Tryz.f106)] ⟨106, [encL 9 encI a, encL 9 encI b, Value.func (Fn.func 107) (Array.mk []) (Array.mk [])] ++ List.replicate (Tryz.f106.ntmps - 3) undef, [], none⟩ (AH.start gs) =
    (
    bif !decide (nI (List.length a) = nI (List.length b)) then
      Q (Value.bool false) []
    else
      LoopG Tryz.prog gs 0 (tab106.live 106 4) (its (bodyOf Tryz.f106) 4) ⟨106, slots 32 [(1, encL 9 encI b), (2, Value.func (Fn.func 107) (Array.mk []) (Array.mk [])), (15, encL 9 encI a), (16, i64 (nI (List.length a))), (17, i64 0)], [], none⟩ (mem []) Q) := by kernel_rfl
theorem t106_4 (a : List Instr) (b : List Instr) (k : Int) (J : Nat → Value) (Q : Value → List ABlk → Prop) :
    SC tab106 Tryz.prog gs Q 4000 (its (bodyOf Tryz.f106) 4) ⟨106, mergeJ (tab106.live 106 4) J 0 (slots 32 [(1, encL 9 encI b), (2, Value.func (Fn.func 107) (Array.mk []) (Array.mk [])), (15, encL 9 encI a), (16, i64 (nI (List.length a))), (17, i64 k)]), [], none⟩ (mem []) =
    (
    bif decide (k < nI (List.length a)) then
      bif decide (0 ≤ k) && decide (k < nI (List.length a)) then
        ∃ x1 : Instr, ((List.map encI a)[Int.toNat k]? = some (encI x1)) ∧
          bif decide (0 ≤ k) && decide (k < nI (List.length b)) then
            ∃ x2 : Instr, ((List.map encI b)[Int.toNat k]? = some (encI x2)) ∧
              ∃ y3 : Bool, (K1 Tryz.prog gs 107 [Value.agg (Array.mk [i64 (Instr.op x1), u8 (Instr.ty x1), u32 (Instr.a x1), u32 (Instr.b x1), u64 (Instr.bits x1), encL 1 u32 (Instr.list x1), encL 9 encI (Instr.then_ x1), encL 9 encI (Instr.else_ x1), Value.bool (Instr.has x1)]), Value.agg (Array.mk [i64 (Instr.op x2), u8 (Instr.ty x2), u32 (Instr.a x2), u32 (Instr.b x2), u64 (Instr.bits x2), encL 1 u32 (Instr.list x2), encL 9 encI (Instr.then_ x2), encL 9 encI (Instr.else_ x2), Value.bool (Instr.has x2)])] (Value.bool y3)) ∧
                bif !y3 then
                  Q (Value.bool false) []
                else
                  LoopG Tryz.prog gs 0 (tab106.live 106 4) (its (bodyOf Tryz.f106) 4) ⟨106, slots 32 [(1, encL 9 encI b), (2, Value.func (Fn.func 107) (Array.mk []) (Array.mk [])), (15, encL 9 encI a), (16, i64 (nI (List.length a))), (17, i64 (IntKind.wrap IntKind.i64 (k + 1)))], [], none⟩ (mem []) Q
          else
            False
      else
        False
    else
      Q (Value.bool true) []) := by kernel_rfl
def tab29 : Tab := ⟨elemV, conV, fun _ _ => [], fun _ _ => [], 0⟩
theorem t29 (a : GFuncType) (b : GFuncType) (Q : Value → List ABlk → Prop) :
    SC tab29 Tryz.prog gs Q 4000 [.code (bodyOf Tryz.f29)] ⟨29, [encFT a, encFT b] ++ List.replicate (Tryz.f29.ntmps - 2) undef, [], none⟩ (AH.start gs) =
    (
    ∃ y1 : Bool, (K1 Tryz.prog gs 94 [encL 1 u8 a.params, encL 1 u8 b.params] (Value.bool y1)) ∧
      bif y1 then
        ∃ y2 : Bool, (K1 Tryz.prog gs 94 [encL 1 u8 a.results, encL 1 u8 b.results] (Value.bool y2)) ∧
          Q (Value.bool y2) []
      else
        Q (Value.bool false) []) := by kernel_rfl
def tab34 : Tab := ⟨elemV, conV, fun _ _ => [], fun _ _ => [], 0⟩
theorem t34 (a : GCell) (b : GCell) (Q : Value → List ABlk → Prop) :
    SC tab34 Tryz.prog gs Q 4000 [.code (bodyOf Tryz.f34)] ⟨34, [encCell a, encCell b] ++ List.replicate (Tryz.f34.ntmps - 2) undef, [], none⟩ (AH.start gs) =
    (
    bif a.value == b.value && (a.mut_ == b.mut_ && true) then
      ∃ y1 : Bool, (K1 Tryz.prog gs 52 [encL 9 encI a.init, encL 9 encI b.init] (Value.bool y1)) ∧
        Q (Value.bool y1) []
    else
      Q (Value.bool false) []) := by kernel_rfl
def tab36 : Tab := ⟨elemV, conV, fun _ _ => [], fun _ _ => [], 0⟩
theorem t36 (a : GFn) (b : GFn) (Q : Value → List ABlk → Prop) :
    SC tab36 Tryz.prog gs Q 4000 [.code (bodyOf Tryz.f36)] ⟨36, [encFn a, encFn b] ++ List.replicate (Tryz.f36.ntmps - 2) undef, [], none⟩ (AH.start gs) =
    (
    bif decide (a.ty = b.ty) then
      ∃ y1 : Bool, (K1 Tryz.prog gs 94 [encL 1 u8 a.locals, encL 1 u8 b.locals] (Value.bool y1)) ∧
        bif y1 then
          ∃ y2 : Bool, (K1 Tryz.prog gs 52 [encL 9 encI a.body, encL 9 encI b.body] (Value.bool y2)) ∧
            Q (Value.bool y2) []
        else
          Q (Value.bool false) []
    else
      Q (Value.bool false) []) := by kernel_rfl
def tab38 : Tab := ⟨elemV, conV, fun _ _ => [], fun _ _ => [], 0⟩
theorem t38 (a : GElem) (b : GElem) (Q : Value → List ABlk → Prop) :
    SC tab38 Tryz.prog gs Q 4000 [.code (bodyOf Tryz.f38)] ⟨38, [encElem a, encElem b] ++ List.replicate (Tryz.f38.ntmps - 2) undef, [], none⟩ (AH.start gs) =
    (
    bif decide (a.table = b.table) then
      ∃ y1 : Bool, (K1 Tryz.prog gs 52 [encL 9 encI a.offset, encL 9 encI b.offset] (Value.bool y1)) ∧
        bif y1 then
          ∃ y2 : Bool, (K1 Tryz.prog gs 95 [encL 1 u32 a.funcs, encL 1 u32 b.funcs] (Value.bool y2)) ∧
            Q (Value.bool y2) []
        else
          Q (Value.bool false) []
    else
      Q (Value.bool false) []) := by kernel_rfl
def tab40 : Tab := ⟨elemV, conV, fun _ _ => [], fun _ _ => [], 0⟩
theorem t40 (a : GData) (b : GData) (Q : Value → List ABlk → Prop) :
    SC tab40 Tryz.prog gs Q 4000 [.code (bodyOf Tryz.f40)] ⟨40, [encData a, encData b] ++ List.replicate (Tryz.f40.ntmps - 2) undef, [], none⟩ (AH.start gs) =
    (
    bif decide (a.memory = b.memory) then
      ∃ y1 : Bool, (K1 Tryz.prog gs 52 [encL 9 encI a.offset, encL 9 encI b.offset] (Value.bool y1)) ∧
        bif y1 then
          ∃ y2 : Bool, (K1 Tryz.prog gs 94 [encL 1 u8 a.bytes, encL 1 u8 b.bytes] (Value.bool y2)) ∧
            Q (Value.bool y2) []
        else
          Q (Value.bool false) []
    else
      Q (Value.bool false) []) := by kernel_rfl
def tab107 : Tab := ⟨elemV, conV, fun _ _ => [], fun _ _ => [], 0⟩
theorem t107 (a : Instr) (b : Instr) (Q : Value → List ABlk → Prop) :
    SC tab107 Tryz.prog gs Q 4000 [.code (bodyOf Tryz.f107)] ⟨107, [opnI a, opnI b] ++ List.replicate (Tryz.f107.ntmps - 2) undef, [], none⟩ (AH.start gs) =
    (
    bif !decide (Instr.op a = Instr.op b) then
      Q (Value.bool false) []
    else
      bif !decide (Instr.ty a = Instr.ty b) then
        Q (Value.bool false) []
      else
        bif !decide (Instr.a a = Instr.a b) then
          Q (Value.bool false) []
        else
          bif !decide (Instr.b a = Instr.b b) then
            Q (Value.bool false) []
          else
            bif !decide (Instr.bits a = Instr.bits b) then
              Q (Value.bool false) []
            else
              bif !Instr.has a == Instr.has b then
                Q (Value.bool false) []
              else
                ∃ y1 : Bool, (K1 Tryz.prog gs 95 [encL 1 u32 (Instr.list a), encL 1 u32 (Instr.list b)] (Value.bool y1)) ∧
                  bif y1 then
                    ∃ y2 : Bool, (K1 Tryz.prog gs 52 [encL 9 encI (Instr.then_ a), encL 9 encI (Instr.then_ b)] (Value.bool y2)) ∧
                      bif y2 then
                        ∃ y3 : Bool, (K1 Tryz.prog gs 52 [encL 9 encI (Instr.else_ a), encL 9 encI (Instr.else_ b)] (Value.bool y3)) ∧
                          Q (Value.bool y3) []
                      else
                        Q (Value.bool false) []
                  else
                    Q (Value.bool false) []) := by kernel_rfl
def tab52 : Tab := ⟨elemV, conV, fun _ _ => [], fun _ _ => [], 0⟩
theorem t52 (a : List Instr) (b : List Instr) (Q : Value → List ABlk → Prop) :
    SC tab52 Tryz.prog gs Q 4000 [.code (bodyOf Tryz.f52)] ⟨52, [encL 9 encI a, encL 9 encI b] ++ List.replicate (Tryz.f52.ntmps - 2) undef, [], none⟩ (AH.start gs) =
    (
    ∃ y1 : Bool, (K1 Tryz.prog gs 106 [encL 9 encI a, encL 9 encI b, Value.func (Fn.func 107) (Array.mk []) (Array.mk [])] (Value.bool y1)) ∧
      Q (Value.bool y1) []) := by kernel_rfl
def tab11 : Tab := ⟨elemV, conV, fun _ _ => [], fun _ _ => [], 0⟩
theorem t11 (a : GModule) (b : GModule) (Q : Value → List ABlk → Prop) :
    SC tab11 Tryz.prog gs Q 4000 [.code (bodyOf Tryz.f11)] ⟨11, [encM a, encM b] ++ List.replicate (Tryz.f11.ntmps - 2) undef, [], none⟩ (AH.start gs) =
    (
    bif !a.starts == b.starts then
      Q (Value.bool false) []
    else
      bif !decide (a.start = b.start) then
        Q (Value.bool false) []
      else
        ∃ y1 : Bool, (K1 Tryz.prog gs 28 [encL 2 encFT a.types, encL 2 encFT b.types, Value.func (Fn.func 29) (Array.mk []) (Array.mk [])] (Value.bool y1)) ∧
          bif !y1 then
            Q (Value.bool false) []
          else
            ∃ y2 : Bool, (K1 Tryz.prog gs 30 [encL 9 encImp a.imports, encL 9 encImp b.imports] (Value.bool y2)) ∧
              bif !y2 then
                Q (Value.bool false) []
              else
                ∃ y3 : Bool, (K1 Tryz.prog gs 31 [encL 3 encExp a.exports, encL 3 encExp b.exports] (Value.bool y3)) ∧
                  bif !y3 then
                    Q (Value.bool false) []
                  else
                    ∃ y4 : Bool, (K1 Tryz.prog gs 32 [encL 3 encLim a.tables, encL 3 encLim b.tables] (Value.bool y4)) ∧
                      bif !y4 then
                        Q (Value.bool false) []
                      else
                        ∃ y5 : Bool, (K1 Tryz.prog gs 32 [encL 3 encLim a.memories, encL 3 encLim b.memories] (Value.bool y5)) ∧
                          bif !y5 then
                            Q (Value.bool false) []
                          else
                            ∃ y6 : Bool, (K1 Tryz.prog gs 33 [encL 3 encCell a.globals, encL 3 encCell b.globals, Value.func (Fn.func 34) (Array.mk []) (Array.mk [])] (Value.bool y6)) ∧
                              bif !y6 then
                                Q (Value.bool false) []
                              else
                                ∃ y7 : Bool, (K1 Tryz.prog gs 35 [encL 3 encFn a.funcs, encL 3 encFn b.funcs, Value.func (Fn.func 36) (Array.mk []) (Array.mk [])] (Value.bool y7)) ∧
                                  bif y7 then
                                    ∃ y8 : Bool, (K1 Tryz.prog gs 37 [encL 3 encElem a.elems, encL 3 encElem b.elems, Value.func (Fn.func 38) (Array.mk []) (Array.mk [])] (Value.bool y8)) ∧
                                      bif y8 then
                                        ∃ y9 : Bool, (K1 Tryz.prog gs 39 [encL 3 encData a.datas, encL 3 encData b.datas, Value.func (Fn.func 40) (Array.mk []) (Array.mk [])] (Value.bool y9)) ∧
                                          Q (Value.bool y9) []
                                      else
                                        Q (Value.bool false) []
                                  else
                                    Q (Value.bool false) []) := by kernel_rfl
end Go.Proofs.YtmcmaklilfgdiaaGreat
