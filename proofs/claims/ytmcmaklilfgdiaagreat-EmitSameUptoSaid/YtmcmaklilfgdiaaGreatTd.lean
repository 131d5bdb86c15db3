/- Symbolic runs, as they were printed. -/
import Derived.Test.YtmcmaklilfgdiaaGreatBa
namespace Go.Proofs.YtmcmaklilfgdiaaGreat
open Go Go.RowKit Ev
def tab41 : Tab := ⟨elemV, conV, fun _ l => match l with | 4 => [0, 1, 5] | _ => [], fun _ _ => [], 0⟩
theorem t41 (a : List GFuncType) (b : List GFuncType) (Q : Value → List ABlk → Prop) :
    SC tab41 Tryz.prog gs Q 4000 [.code (bodyOf Tryz.f41)] ⟨41, [encL 2 encFT a, encL 2 encFT b] ++ List.replicate (Tryz.f41.ntmps - 2) undef, [], none⟩ (AH.start gs) =
    (
    bif !decide (nI (List.length a) = nI (List.length b)) then
      Q (Value.bool false) []
    else
      LoopG Tryz.prog gs 0 (tab41.live 41 4) (its (bodyOf Tryz.f41) 4) ⟨41, slots 45 [(0, encL 2 encFT a), (1, encL 2 encFT b), (5, i64 0)], [], none⟩ (mem []) Q) := by kernel_rfl
theorem t41_4 (a : List GFuncType) (b : List GFuncType) (k : Int) (J : Nat → Value) (Q : Value → List ABlk → Prop) :
    SC tab41 Tryz.prog gs Q 4000 (its (bodyOf Tryz.f41) 4) ⟨41, mergeJ (tab41.live 41 4) J 0 (slots 45 [(0, encL 2 encFT a), (1, encL 2 encFT b), (5, i64 k)]), [], none⟩ (mem []) =
    (
    bif decide (k < nI (List.length a)) then
      bif decide (0 ≤ k) && decide (k < nI (List.length a)) then
        ∃ x1 : GFuncType, ((List.map encFT a)[Int.toNat k]? = some (encFT x1)) ∧
          ∃ s2 : ByteArray, (bytesOf (List.map u8 x1.params) = some s2.data.toList) ∧
            bif decide (0 ≤ k) && decide (k < nI (List.length b)) then
              ∃ x3 : GFuncType, ((List.map encFT b)[Int.toNat k]? = some (encFT x3)) ∧
                ∃ s4 : ByteArray, (bytesOf (List.map u8 x3.params) = some s4.data.toList) ∧
                  bif !ByteArray.toList s2 == ByteArray.toList s4 then
                    Q (Value.bool false) []
                  else
                    bif decide (0 ≤ k) && decide (k < nI (List.length a)) then
                      ∃ x5 : GFuncType, ((List.map encFT a)[Int.toNat k]? = some (encFT x5)) ∧
                        ∃ s6 : ByteArray, (bytesOf (List.map u8 x5.results) = some s6.data.toList) ∧
                          bif decide (0 ≤ k) && decide (k < nI (List.length b)) then
                            ∃ x7 : GFuncType, ((List.map encFT b)[Int.toNat k]? = some (encFT x7)) ∧
                              ∃ s8 : ByteArray, (bytesOf (List.map u8 x7.results) = some s8.data.toList) ∧
                                bif !ByteArray.toList s6 == ByteArray.toList s8 then
                                  Q (Value.bool false) []
                                else
                                  LoopG Tryz.prog gs 0 (tab41.live 41 4) (its (bodyOf Tryz.f41) 4) ⟨41, slots 45 [(0, encL 2 encFT a), (1, encL 2 encFT b), (5, i64 (IntKind.wrap IntKind.i64 (k + 1)))], [], none⟩ (mem []) Q
                          else
                            False
                    else
                      False
            else
              False
      else
        False
    else
      Q (Value.bool true) []) := by kernel_rfl
def tab43 : Tab := ⟨elemV, conV, fun _ l => match l with | 4 => [0, 1, 5] | _ => [], fun _ _ => [], 0⟩
theorem t43 (a : List GLimits) (b : List GLimits) (Q : Value → List ABlk → Prop) :
    SC tab43 Tryz.prog gs Q 4000 [.code (bodyOf Tryz.f43)] ⟨43, [encL 3 encLim a, encL 3 encLim b] ++ List.replicate (Tryz.f43.ntmps - 2) undef, [], none⟩ (AH.start gs) =
    (
    bif !decide (nI (List.length a) = nI (List.length b)) then
      Q (Value.bool false) []
    else
      LoopG Tryz.prog gs 0 (tab43.live 43 4) (its (bodyOf Tryz.f43) 4) ⟨43, slots 26 [(0, encL 3 encLim a), (1, encL 3 encLim b), (5, i64 0)], [], none⟩ (mem []) Q) := by kernel_rfl
theorem t43_4 (a : List GLimits) (b : List GLimits) (k : Int) (J : Nat → Value) (Q : Value → List ABlk → Prop) :
    SC tab43 Tryz.prog gs Q 4000 (its (bodyOf Tryz.f43) 4) ⟨43, mergeJ (tab43.live 43 4) J 0 (slots 26 [(0, encL 3 encLim a), (1, encL 3 encLim b), (5, i64 k)]), [], none⟩ (mem []) =
    (
    bif decide (k < nI (List.length a)) then
      bif decide (0 ≤ k) && decide (k < nI (List.length a)) then
        ∃ x1 : GLimits, ((List.map encLim a)[Int.toNat k]? = some (encLim x1)) ∧
          bif decide (0 ≤ k) && decide (k < nI (List.length b)) then
            ∃ x2 : GLimits, ((List.map encLim b)[Int.toNat k]? = some (encLim x2)) ∧
              bif !(x1.min == x2.min && (x1.max == x2.max && (x1.has == x2.has && true))) then
                Q (Value.bool false) []
              else
                LoopG Tryz.prog gs 0 (tab43.live 43 4) (its (bodyOf Tryz.f43) 4) ⟨43, slots 26 [(0, encL 3 encLim a), (1, encL 3 encLim b), (5, i64 (IntKind.wrap IntKind.i64 (k + 1)))], [], none⟩ (mem []) Q
          else
            False
      else
        False
    else
      Q (Value.bool true) []) := by kernel_rfl
def tab45 : Tab := ⟨elemV, conV, fun _ l => match l with | 4 => [0, 1, 5] | _ => [], fun _ _ => [], 0⟩
theorem t45 (a : List Int) (b : List Int) (Q : Value → List ABlk → Prop) :
    SC tab45 Tryz.prog gs Q 4000 [.code (bodyOf Tryz.f45)] ⟨45, [words a, words b] ++ List.replicate (Tryz.f45.ntmps - 2) undef, [], none⟩ (AH.start gs) =
    (
    bif !decide (nI (List.length a) = nI (List.length b)) then
      Q (Value.bool false) []
    else
      LoopG Tryz.prog gs 0 (tab45.live 45 4) (its (bodyOf Tryz.f45) 4) ⟨45, slots 26 [(0, encL 1 u32 a), (1, encL 1 u32 b), (5, i64 0)], [], none⟩ (mem []) Q) := by kernel_rfl
theorem t45_4 (a : List Int) (b : List Int) (k : Int) (J : Nat → Value) (Q : Value → List ABlk → Prop) :
    SC tab45 Tryz.prog gs Q 4000 (its (bodyOf Tryz.f45) 4) ⟨45, mergeJ (tab45.live 45 4) J 0 (slots 26 [(0, words a), (1, words b), (5, i64 k)]), [], none⟩ (mem []) =
    (
    bif decide (k < nI (List.length a)) then
      bif decide (0 ≤ k) && decide (k < nI (List.length a)) then
        ∃ x1 : Int, ((List.map u32 a)[Int.toNat k]? = some (u32 x1)) ∧
          bif decide (0 ≤ k) && decide (k < nI (List.length b)) then
            ∃ x2 : Int, ((List.map u32 b)[Int.toNat k]? = some (u32 x2)) ∧
              bif !decide (x1 = x2) then
                Q (Value.bool false) []
              else
                LoopG Tryz.prog gs 0 (tab45.live 45 4) (its (bodyOf Tryz.f45) 4) ⟨45, slots 26 [(0, encL 1 u32 a), (1, encL 1 u32 b), (5, i64 (IntKind.wrap IntKind.i64 (k + 1)))], [], none⟩ (mem []) Q
          else
            False
      else
        False
    else
      Q (Value.bool true) []) := by kernel_rfl
def tab96 : Tab := ⟨elemV, conV, fun _ l => match l with | 4 => [0, 1, 5] | _ => [], fun _ _ => [], 0⟩
theorem t96 (a : List Int) (b : List Int) (Q : Value → List ABlk → Prop) :
    SC tab96 Tryz.prog gs Q 4000 [.code (bodyOf Tryz.f96)] ⟨96, [words a, words b] ++ List.replicate (Tryz.f96.ntmps - 2) undef, [], none⟩ (AH.start gs) =
    (
    bif !decide (nI (List.length a) = nI (List.length b)) then
      Q (Value.bool false) []
    else
      LoopG Tryz.prog gs 0 (tab96.live 96 4) (its (bodyOf Tryz.f96) 4) ⟨96, slots 26 [(0, encL 1 u32 a), (1, encL 1 u32 b), (5, i64 0)], [], none⟩ (mem []) Q) := by kernel_rfl
theorem t96_4 (a : List Int) (b : List Int) (k : Int) (J : Nat → Value) (Q : Value → List ABlk → Prop) :
    SC tab96 Tryz.prog gs Q 4000 (its (bodyOf Tryz.f96) 4) ⟨96, mergeJ (tab96.live 96 4) J 0 (slots 26 [(0, words a), (1, words b), (5, i64 k)]), [], none⟩ (mem []) =
    (
    bif decide (k < nI (List.length a)) then
      bif decide (0 ≤ k) && decide (k < nI (List.length a)) then
        ∃ x1 : Int, ((List.map u32 a)[Int.toNat k]? = some (u32 x1)) ∧
          bif decide (0 ≤ k) && decide (k < nI (List.length b)) then
            ∃ x2 : Int, ((List.map u32 b)[Int.toNat k]? = some (u32 x2)) ∧
              bif !decide (x1 = x2) then
                Q (Value.bool false) []
              else
                LoopG Tryz.prog gs 0 (tab96.live 96 4) (its (bodyOf Tryz.f96) 4) ⟨96, slots 26 [(0, encL 1 u32 a), (1, encL 1 u32 b), (5, i64 (IntKind.wrap IntKind.i64 (k + 1)))], [], none⟩ (mem []) Q
          else
            False
      else
        False
    else
      Q (Value.bool true) []) := by kernel_rfl
def tab44 : Tab := ⟨elemV, conV, fun _ l => match l with | 4 => [0, 1, 5] | _ => [], fun _ _ => [], 0⟩
theorem t44 (a : List Instr) (b : List Instr) (Q : Value → List ABlk → Prop) :
    SC tab44 Tryz.prog gs Q 4000 [.code (bodyOf Tryz.f44)] ⟨44, [encL 9 encI a, encL 9 encI b] ++ List.replicate (Tryz.f44.ntmps - 2) undef, [], none⟩ (AH.start gs) =
    (
    bif !decide (nI (List.length a) = nI (List.length b)) then
      Q (Value.bool false) []
    else
      LoopG Tryz.prog gs 0 (tab44.live 44 4) (its (bodyOf Tryz.f44) 4) ⟨44, slots 91 [(0, encL 9 encI a), (1, encL 9 encI b), (5, i64 0)], [], none⟩ (mem []) Q) := by kernel_rfl
theorem t44_4 (a : List Instr) (b : List Instr) (k : Int) (J : Nat → Value) (Q : Value → List ABlk → Prop) :
    SC tab44 Tryz.prog gs Q 4000 (its (bodyOf Tryz.f44) 4) ⟨44, mergeJ (tab44.live 44 4) J 0 (slots 91 [(0, encL 9 encI a), (1, encL 9 encI b), (5, i64 k)]), [], none⟩ (mem []) =
    (
    bif decide (k < nI (List.length a)) then
      bif decide (0 ≤ k) && decide (k < nI (List.length a)) then
        ∃ x1 : Instr, ((List.map encI a)[Int.toNat k]? = some (encI x1)) ∧
          bif decide (0 ≤ k) && decide (k < nI (List.length b)) then
            ∃ x2 : Instr, ((List.map encI b)[Int.toNat k]? = some (encI x2)) ∧
              bif !decide (Instr.op x1 = Instr.op x2) then
                Q (Value.bool false) []
              else
                bif !decide (Instr.ty x1 = Instr.ty x2) then
                  Q (Value.bool false) []
                else
                  bif !decide (Instr.a x1 = Instr.a x2) then
                    Q (Value.bool false) []
                  else
                    bif !decide (Instr.b x1 = Instr.b x2) then
                      Q (Value.bool false) []
                    else
                      bif !decide (Instr.bits x1 = Instr.bits x2) then
                        Q (Value.bool false) []
                      else
                        bif !Instr.has x1 == Instr.has x2 then
                          Q (Value.bool false) []
                        else
                          ∃ y3 : Bool, (K1 Tryz.prog gs 96 [encL 1 u32 (Instr.list x1), encL 1 u32 (Instr.list x2)] (Value.bool y3)) ∧
                            bif !y3 then
                              Q (Value.bool false) []
                            else
                              ∃ y4 : Bool, (K1 Tryz.prog gs 44 [encL 9 encI (Instr.then_ x1), encL 9 encI (Instr.then_ x2)] (Value.bool y4)) ∧
                                bif !y4 then
                                  Q (Value.bool false) []
                                else
                                  ∃ y5 : Bool, (K1 Tryz.prog gs 44 [encL 9 encI (Instr.else_ x1), encL 9 encI (Instr.else_ x2)] (Value.bool y5)) ∧
                                    bif !y5 then
                                      Q (Value.bool false) []
                                    else
                                      LoopG Tryz.prog gs 0 (tab44.live 44 4) (its (bodyOf Tryz.f44) 4) ⟨44, slots 91 [(0, encL 9 encI a), (1, encL 9 encI b), (5, i64 (IntKind.wrap IntKind.i64 (k + 1)))], [], none⟩ (mem []) Q
          else
            False
      else
        False
    else
      Q (Value.bool true) []) := by kernel_rfl
def tab42 : Tab := ⟨elemV, conV, fun _ l => match l with | 4 => [2, 3, 5] | 9 => [2, 3, 6] | 14 => [2, 3, 7] | _ => [], fun _ _ => [], 0⟩
theorem t42 (a : GModule) (b : GModule) (Q : Value → List ABlk → Prop) :
    SC tab42 Tryz.prog gs Q 4000 [.code (bodyOf Tryz.f42)] ⟨42, [encM a, encM b] ++ List.replicate (Tryz.f42.ntmps - 2) undef, [], none⟩ (AH.start gs) =
    (
    bif !decide (nI (List.length a.imports) = nI (List.length b.imports)) then
      Q (Value.bool false) []
    else
      bif !decide (nI (List.length a.exports) = nI (List.length b.exports)) then
        Q (Value.bool false) []
      else
        bif !decide (nI (List.length a.globals) = nI (List.length b.globals)) then
          Q (Value.bool false) []
        else
          LoopG Tryz.prog gs 0 (tab42.live 42 4) (its (bodyOf Tryz.f42) 4) ⟨42, slots 120 [(2, Value.pointer (some (Addr.mk 0 0 none))), (3, Value.pointer (some (Addr.mk 1 0 none))), (5, i64 0)], [], none⟩ (mem [ABlk.cells [encL 2 encFT a.types, encL 9 encImp a.imports, encL 3 encFn a.funcs, encL 3 encLim a.tables, encL 3 encLim a.memories, encL 3 encCell a.globals, encL 3 encExp a.exports, Value.bool a.starts, u32 a.start, encL 3 encElem a.elems, encL 3 encData a.datas] 0, ABlk.cells [encL 2 encFT b.types, encL 9 encImp b.imports, encL 3 encFn b.funcs, encL 3 encLim b.tables, encL 3 encLim b.memories, encL 3 encCell b.globals, encL 3 encExp b.exports, Value.bool b.starts, u32 b.start, encL 3 encElem b.elems, encL 3 encData b.datas] 0]) Q) := by kernel_rfl
theorem t42_4 (a : GModule) (b : GModule) (k : Int) (J : Nat → Value) (Q : Value → List ABlk → Prop) :
    SC tab42 Tryz.prog gs Q 4000 (its (bodyOf Tryz.f42) 4) ⟨42, mergeJ (tab42.live 42 4) J 0 (slots 120 [(2, ptrV 0), (3, ptrV 1), (5, i64 k)]), [], none⟩ (mem [ABlk.cells (cellsM a) 0, ABlk.cells (cellsM b) 0]) =
    (
    bif decide (k < nI (List.length a.imports)) then
      bif decide (0 ≤ k) && decide (k < nI (List.length a.imports)) then
        ∃ x1 : GImport, ((List.map encImp a.imports)[Int.toNat k]? = some (encImp x1)) ∧
          bif decide (0 ≤ k) && decide (k < nI (List.length b.imports)) then
            ∃ x2 : GImport, ((List.map encImp b.imports)[Int.toNat k]? = some (encImp x2)) ∧
              bif !(x1.module == x2.module && (x1.name == x2.name && (x1.kind == x2.kind && (x1.ty == x2.ty && (x1.limits.min == x2.limits.min && (x1.limits.max == x2.limits.max && (x1.limits.has == x2.limits.has && true)) && (x1.value == x2.value && (x1.mut_ == x2.mut_ && true))))))) then
                Q (Value.bool false) []
              else
                LoopG Tryz.prog gs 0 (tab42.live 42 4) (its (bodyOf Tryz.f42) 4) ⟨42, slots 120 [(2, Value.pointer (some (Addr.mk 0 0 none))), (3, Value.pointer (some (Addr.mk 1 0 none))), (5, i64 (IntKind.wrap IntKind.i64 (k + 1)))], [], none⟩ (mem [ABlk.cells [encL 2 encFT a.types, encL 9 encImp a.imports, encL 3 encFn a.funcs, encL 3 encLim a.tables, encL 3 encLim a.memories, encL 3 encCell a.globals, encL 3 encExp a.exports, Value.bool a.starts, u32 a.start, encL 3 encElem a.elems, encL 3 encData a.datas] 0, ABlk.cells [encL 2 encFT b.types, encL 9 encImp b.imports, encL 3 encFn b.funcs, encL 3 encLim b.tables, encL 3 encLim b.memories, encL 3 encCell b.globals, encL 3 encExp b.exports, Value.bool b.starts, u32 b.start, encL 3 encElem b.elems, encL 3 encData b.datas] 0]) Q
          else
            False
      else
        False
    else
      LoopG Tryz.prog gs 0 (tab42.live 42 9) (its (bodyOf Tryz.f42) 9) ⟨42, slots 120 [(2, Value.pointer (some (Addr.mk 0 0 none))), (3, Value.pointer (some (Addr.mk 1 0 none))), (6, i64 0)], [], none⟩ (mem [ABlk.cells [encL 2 encFT a.types, encL 9 encImp a.imports, encL 3 encFn a.funcs, encL 3 encLim a.tables, encL 3 encLim a.memories, encL 3 encCell a.globals, encL 3 encExp a.exports, Value.bool a.starts, u32 a.start, encL 3 encElem a.elems, encL 3 encData a.datas] 0, ABlk.cells [encL 2 encFT b.types, encL 9 encImp b.imports, encL 3 encFn b.funcs, encL 3 encLim b.tables, encL 3 encLim b.memories, encL 3 encCell b.globals, encL 3 encExp b.exports, Value.bool b.starts, u32 b.start, encL 3 encElem b.elems, encL 3 encData b.datas] 0]) Q) := by kernel_rfl
theorem t42_9 (a : GModule) (b : GModule) (k : Int) (J : Nat → Value) (Q : Value → List ABlk → Prop) :
    SC tab42 Tryz.prog gs Q 4000 (its (bodyOf Tryz.f42) 9) ⟨42, mergeJ (tab42.live 42 9) J 0 (slots 120 [(2, ptrV 0), (3, ptrV 1), (6, i64 k)]), [], none⟩ (mem [ABlk.cells (cellsM a) 0, ABlk.cells (cellsM b) 0]) =
    (
    bif decide (k < nI (List.length a.exports)) then
      bif decide (0 ≤ k) && decide (k < nI (List.length a.exports)) then
        ∃ x1 : GExport, ((List.map encExp a.exports)[Int.toNat k]? = some (encExp x1)) ∧
          bif decide (0 ≤ k) && decide (k < nI (List.length b.exports)) then
            ∃ x2 : GExport, ((List.map encExp b.exports)[Int.toNat k]? = some (encExp x2)) ∧
              bif !(x1.name == x2.name && (x1.kind == x2.kind && (x1.index == x2.index && true))) then
                Q (Value.bool false) []
              else
                LoopG Tryz.prog gs 0 (tab42.live 42 9) (its (bodyOf Tryz.f42) 9) ⟨42, slots 120 [(2, Value.pointer (some (Addr.mk 0 0 none))), (3, Value.pointer (some (Addr.mk 1 0 none))), (6, i64 (IntKind.wrap IntKind.i64 (k + 1)))], [], none⟩ (mem [ABlk.cells [encL 2 encFT a.types, encL 9 encImp a.imports, encL 3 encFn a.funcs, encL 3 encLim a.tables, encL 3 encLim a.memories, encL 3 encCell a.globals, encL 3 encExp a.exports, Value.bool a.starts, u32 a.start, encL 3 encElem a.elems, encL 3 encData a.datas] 0, ABlk.cells [encL 2 encFT b.types, encL 9 encImp b.imports, encL 3 encFn b.funcs, encL 3 encLim b.tables, encL 3 encLim b.memories, encL 3 encCell b.globals, encL 3 encExp b.exports, Value.bool b.starts, u32 b.start, encL 3 encElem b.elems, encL 3 encData b.datas] 0]) Q
          else
            False
      else
        False
    else
      LoopG Tryz.prog gs 0 (tab42.live 42 14) (its (bodyOf Tryz.f42) 14) ⟨42, slots 120 [(2, Value.pointer (some (Addr.mk 0 0 none))), (3, Value.pointer (some (Addr.mk 1 0 none))), (7, i64 0)], [], none⟩ (mem [ABlk.cells [encL 2 encFT a.types, encL 9 encImp a.imports, encL 3 encFn a.funcs, encL 3 encLim a.tables, encL 3 encLim a.memories, encL 3 encCell a.globals, encL 3 encExp a.exports, Value.bool a.starts, u32 a.start, encL 3 encElem a.elems, encL 3 encData a.datas] 0, ABlk.cells [encL 2 encFT b.types, encL 9 encImp b.imports, encL 3 encFn b.funcs, encL 3 encLim b.tables, encL 3 encLim b.memories, encL 3 encCell b.globals, encL 3 encExp b.exports, Value.bool b.starts, u32 b.start, encL 3 encElem b.elems, encL 3 encData b.datas] 0]) Q) := by kernel_rfl
theorem t42_14 (a : GModule) (b : GModule) (k : Int) (J : Nat → Value) (Q : Value → List ABlk → Prop) :
    SC tab42 Tryz.prog gs Q 4000 (its (bodyOf Tryz.f42) 14) ⟨42, mergeJ (tab42.live 42 14) J 0 (slots 120 [(2, ptrV 0), (3, ptrV 1), (7, i64 k)]), [], none⟩ (mem [ABlk.cells (cellsM a) 0, ABlk.cells (cellsM b) 0]) =
    (
    bif decide (k < nI (List.length a.globals)) then
      bif decide (0 ≤ k) && decide (k < nI (List.length a.globals)) then
        ∃ x1 : GCell, ((List.map encCell a.globals)[Int.toNat k]? = some (encCell x1)) ∧
          bif decide (0 ≤ k) && decide (k < nI (List.length b.globals)) then
            ∃ x2 : GCell, ((List.map encCell b.globals)[Int.toNat k]? = some (encCell x2)) ∧
              bif !decide (x1.value = x2.value) then
                Q (Value.bool false) []
              else
                bif decide (0 ≤ k) && decide (k < nI (List.length a.globals)) then
                  ∃ x3 : GCell, ((List.map encCell a.globals)[Int.toNat k]? = some (encCell x3)) ∧
                    bif decide (0 ≤ k) && decide (k < nI (List.length b.globals)) then
                      ∃ x4 : GCell, ((List.map encCell b.globals)[Int.toNat k]? = some (encCell x4)) ∧
                        bif !x3.mut_ == x4.mut_ then
                          Q (Value.bool false) []
                        else
                          bif decide (0 ≤ k) && decide (k < nI (List.length a.globals)) then
                            ∃ x5 : GCell, ((List.map encCell a.globals)[Int.toNat k]? = some (encCell x5)) ∧
                              bif decide (0 ≤ k) && decide (k < nI (List.length b.globals)) then
                                ∃ x6 : GCell, ((List.map encCell b.globals)[Int.toNat k]? = some (encCell x6)) ∧
                                  ∃ y7 : Bool, (K1 Tryz.prog gs 44 [encL 9 encI x5.init, encL 9 encI x6.init] (Value.bool y7)) ∧
                                    bif !y7 then
                                      Q (Value.bool false) []
                                    else
                                      LoopG Tryz.prog gs 0 (tab42.live 42 14) (its (bodyOf Tryz.f42) 14) ⟨42, slots 120 [(2, Value.pointer (some (Addr.mk 0 0 none))), (3, Value.pointer (some (Addr.mk 1 0 none))), (7, i64 (IntKind.wrap IntKind.i64 (k + 1)))], [], none⟩ (mem [ABlk.cells [encL 2 encFT a.types, encL 9 encImp a.imports, encL 3 encFn a.funcs, encL 3 encLim a.tables, encL 3 encLim a.memories, encL 3 encCell a.globals, encL 3 encExp a.exports, Value.bool a.starts, u32 a.start, encL 3 encElem a.elems, encL 3 encData a.datas] 0, ABlk.cells [encL 2 encFT b.types, encL 9 encImp b.imports, encL 3 encFn b.funcs, encL 3 encLim b.tables, encL 3 encLim b.memories, encL 3 encCell b.globals, encL 3 encExp b.exports, Value.bool b.starts, u32 b.start, encL 3 encElem b.elems, encL 3 encData b.datas] 0]) Q
                              else
                                False
                          else
                            False
                    else
                      False
                else
                  False
          else
            False
      else
        False
    else
      Q (Value.bool true) []) := by kernel_rfl
def tab12 : Tab := ⟨elemV, conV, fun _ l => match l with | 4 => [2, 3, 5] | 9 => [2, 3, 6] | 14 => [2, 3, 7] | _ => [], fun _ _ => [], 0⟩
theorem t12 (a : GModule) (b : GModule) (Q : Value → List ABlk → Prop) :
    SC tab12 Tryz.prog gs Q 4000 [.code (bodyOf Tryz.f12)] ⟨12, [encM a, encM b] ++ List.replicate (Tryz.f12.ntmps - 2) undef, [], none⟩ (AH.start gs) =
    (
    ∃ y1 : Bool, (K1 Tryz.prog gs 41 [encL 2 encFT a.types, encL 2 encFT b.types] (Value.bool y1)) ∧
      bif !y1 then
        Q (Value.bool false) []
      else
        ∃ y2 : Bool, (K1 Tryz.prog gs 42 [Value.agg (Array.mk [encL 2 encFT a.types, encL 9 encImp a.imports, encL 3 encFn a.funcs, encL 3 encLim a.tables, encL 3 encLim a.memories, encL 3 encCell a.globals, encL 3 encExp a.exports, Value.bool a.starts, u32 a.start, encL 3 encElem a.elems, encL 3 encData a.datas]), Value.agg (Array.mk [encL 2 encFT b.types, encL 9 encImp b.imports, encL 3 encFn b.funcs, encL 3 encLim b.tables, encL 3 encLim b.memories, encL 3 encCell b.globals, encL 3 encExp b.exports, Value.bool b.starts, u32 b.start, encL 3 encElem b.elems, encL 3 encData b.datas])] (Value.bool y2)) ∧
          bif !y2 then
            Q (Value.bool false) []
          else
            ∃ y3 : Bool, (K1 Tryz.prog gs 43 [encL 3 encLim a.tables, encL 3 encLim b.tables] (Value.bool y3)) ∧
              bif !y3 then
                Q (Value.bool false) []
              else
                ∃ y4 : Bool, (K1 Tryz.prog gs 43 [encL 3 encLim a.memories, encL 3 encLim b.memories] (Value.bool y4)) ∧
                  bif !y4 then
                    Q (Value.bool false) []
                  else
                    bif !a.starts == b.starts then
                      Q (Value.bool false) []
                    else
                      bif !decide (a.start = b.start) then
                        Q (Value.bool false) []
                      else
                        bif !decide (nI (List.length a.funcs) = nI (List.length b.funcs)) then
                          Q (Value.bool false) []
                        else
                          bif !decide (nI (List.length a.elems) = nI (List.length b.elems)) then
                            Q (Value.bool false) []
                          else
                            bif !decide (nI (List.length a.datas) = nI (List.length b.datas)) then
                              Q (Value.bool false) []
                            else
                              LoopG Tryz.prog gs 0 (tab12.live 12 4) (its (bodyOf Tryz.f12) 4) ⟨12, slots 235 [(2, Value.pointer (some (Addr.mk 0 0 none))), (3, Value.pointer (some (Addr.mk 1 0 none))), (5, i64 0)], [], none⟩ (mem [ABlk.cells [encL 2 encFT a.types, encL 9 encImp a.imports, encL 3 encFn a.funcs, encL 3 encLim a.tables, encL 3 encLim a.memories, encL 3 encCell a.globals, encL 3 encExp a.exports, Value.bool a.starts, u32 a.start, encL 3 encElem a.elems, encL 3 encData a.datas] 0, ABlk.cells [encL 2 encFT b.types, encL 9 encImp b.imports, encL 3 encFn b.funcs, encL 3 encLim b.tables, encL 3 encLim b.memories, encL 3 encCell b.globals, encL 3 encExp b.exports, Value.bool b.starts, u32 b.start, encL 3 encElem b.elems, encL 3 encData b.datas] 0]) Q) := by kernel_rfl
theorem t12_4 (a : GModule) (b : GModule) (k : Int) (J : Nat → Value) (Q : Value → List ABlk → Prop) :
    SC tab12 Tryz.prog gs Q 4000 (its (bodyOf Tryz.f12) 4) ⟨12, mergeJ (tab12.live 12 4) J 0 (slots 235 [(2, ptrV 0), (3, ptrV 1), (5, i64 k)]), [], none⟩ (mem [ABlk.cells (cellsM a) 0, ABlk.cells (cellsM b) 0]) =
    (
    bif decide (k < nI (List.length a.funcs)) then
      bif decide (0 ≤ k) && decide (k < nI (List.length a.funcs)) then
        ∃ x1 : GFn, ((List.map encFn a.funcs)[Int.toNat k]? = some (encFn x1)) ∧
          bif decide (0 ≤ k) && decide (k < nI (List.length b.funcs)) then
            ∃ x2 : GFn, ((List.map encFn b.funcs)[Int.toNat k]? = some (encFn x2)) ∧
              bif !decide (x1.ty = x2.ty) then
                Q (Value.bool false) []
              else
                bif decide (0 ≤ k) && decide (k < nI (List.length a.funcs)) then
                  ∃ x3 : GFn, ((List.map encFn a.funcs)[Int.toNat k]? = some (encFn x3)) ∧
                    ∃ s4 : ByteArray, (bytesOf (List.map u8 x3.locals) = some s4.data.toList) ∧
                      bif decide (0 ≤ k) && decide (k < nI (List.length b.funcs)) then
                        ∃ x5 : GFn, ((List.map encFn b.funcs)[Int.toNat k]? = some (encFn x5)) ∧
                          ∃ s6 : ByteArray, (bytesOf (List.map u8 x5.locals) = some s6.data.toList) ∧
                            bif !ByteArray.toList s4 == ByteArray.toList s6 then
                              Q (Value.bool false) []
                            else
                              bif decide (0 ≤ k) && decide (k < nI (List.length a.funcs)) then
                                ∃ x7 : GFn, ((List.map encFn a.funcs)[Int.toNat k]? = some (encFn x7)) ∧
                                  bif decide (0 ≤ k) && decide (k < nI (List.length b.funcs)) then
                                    ∃ x8 : GFn, ((List.map encFn b.funcs)[Int.toNat k]? = some (encFn x8)) ∧
                                      ∃ y9 : Bool, (K1 Tryz.prog gs 44 [encL 9 encI x7.body, encL 9 encI x8.body] (Value.bool y9)) ∧
                                        bif !y9 then
                                          Q (Value.bool false) []
                                        else
                                          LoopG Tryz.prog gs 0 (tab12.live 12 4) (its (bodyOf Tryz.f12) 4) ⟨12, slots 235 [(2, Value.pointer (some (Addr.mk 0 0 none))), (3, Value.pointer (some (Addr.mk 1 0 none))), (5, i64 (IntKind.wrap IntKind.i64 (k + 1)))], [], none⟩ (mem [ABlk.cells [encL 2 encFT a.types, encL 9 encImp a.imports, encL 3 encFn a.funcs, encL 3 encLim a.tables, encL 3 encLim a.memories, encL 3 encCell a.globals, encL 3 encExp a.exports, Value.bool a.starts, u32 a.start, encL 3 encElem a.elems, encL 3 encData a.datas] 0, ABlk.cells [encL 2 encFT b.types, encL 9 encImp b.imports, encL 3 encFn b.funcs, encL 3 encLim b.tables, encL 3 encLim b.memories, encL 3 encCell b.globals, encL 3 encExp b.exports, Value.bool b.starts, u32 b.start, encL 3 encElem b.elems, encL 3 encData b.datas] 0]) Q
                                  else
                                    False
                              else
                                False
                      else
                        False
                else
                  False
          else
            False
      else
        False
    else
      LoopG Tryz.prog gs 0 (tab12.live 12 9) (its (bodyOf Tryz.f12) 9) ⟨12, slots 235 [(2, Value.pointer (some (Addr.mk 0 0 none))), (3, Value.pointer (some (Addr.mk 1 0 none))), (6, i64 0)], [], none⟩ (mem [ABlk.cells [encL 2 encFT a.types, encL 9 encImp a.imports, encL 3 encFn a.funcs, encL 3 encLim a.tables, encL 3 encLim a.memories, encL 3 encCell a.globals, encL 3 encExp a.exports, Value.bool a.starts, u32 a.start, encL 3 encElem a.elems, encL 3 encData a.datas] 0, ABlk.cells [encL 2 encFT b.types, encL 9 encImp b.imports, encL 3 encFn b.funcs, encL 3 encLim b.tables, encL 3 encLim b.memories, encL 3 encCell b.globals, encL 3 encExp b.exports, Value.bool b.starts, u32 b.start, encL 3 encElem b.elems, encL 3 encData b.datas] 0]) Q) := by kernel_rfl
theorem t12_9 (a : GModule) (b : GModule) (k : Int) (J : Nat → Value) (Q : Value → List ABlk → Prop) :
    SC tab12 Tryz.prog gs Q 4000 (its (bodyOf Tryz.f12) 9) ⟨12, mergeJ (tab12.live 12 9) J 0 (slots 235 [(2, ptrV 0), (3, ptrV 1), (6, i64 k)]), [], none⟩ (mem [ABlk.cells (cellsM a) 0, ABlk.cells (cellsM b) 0]) =
    (
    bif decide (k < nI (List.length a.elems)) then
      bif decide (0 ≤ k) && decide (k < nI (List.length a.elems)) then
        ∃ x1 : GElem, ((List.map encElem a.elems)[Int.toNat k]? = some (encElem x1)) ∧
          bif decide (0 ≤ k) && decide (k < nI (List.length b.elems)) then
            ∃ x2 : GElem, ((List.map encElem b.elems)[Int.toNat k]? = some (encElem x2)) ∧
              bif !decide (x1.table = x2.table) then
                Q (Value.bool false) []
              else
                bif decide (0 ≤ k) && decide (k < nI (List.length a.elems)) then
                  ∃ x3 : GElem, ((List.map encElem a.elems)[Int.toNat k]? = some (encElem x3)) ∧
                    bif decide (0 ≤ k) && decide (k < nI (List.length b.elems)) then
                      ∃ x4 : GElem, ((List.map encElem b.elems)[Int.toNat k]? = some (encElem x4)) ∧
                        ∃ y5 : Bool, (K1 Tryz.prog gs 44 [encL 9 encI x3.offset, encL 9 encI x4.offset] (Value.bool y5)) ∧
                          bif !y5 then
                            Q (Value.bool false) []
                          else
                            bif decide (0 ≤ k) && decide (k < nI (List.length a.elems)) then
                              ∃ x6 : GElem, ((List.map encElem a.elems)[Int.toNat k]? = some (encElem x6)) ∧
                                bif decide (0 ≤ k) && decide (k < nI (List.length b.elems)) then
                                  ∃ x7 : GElem, ((List.map encElem b.elems)[Int.toNat k]? = some (encElem x7)) ∧
                                    ∃ y8 : Bool, (K1 Tryz.prog gs 45 [encL 1 u32 x6.funcs, encL 1 u32 x7.funcs] (Value.bool y8)) ∧
                                      bif !y8 then
                                        Q (Value.bool false) []
                                      else
                                        LoopG Tryz.prog gs 0 (tab12.live 12 9) (its (bodyOf Tryz.f12) 9) ⟨12, slots 235 [(2, Value.pointer (some (Addr.mk 0 0 none))), (3, Value.pointer (some (Addr.mk 1 0 none))), (6, i64 (IntKind.wrap IntKind.i64 (k + 1)))], [], none⟩ (mem [ABlk.cells [encL 2 encFT a.types, encL 9 encImp a.imports, encL 3 encFn a.funcs, encL 3 encLim a.tables, encL 3 encLim a.memories, encL 3 encCell a.globals, encL 3 encExp a.exports, Value.bool a.starts, u32 a.start, encL 3 encElem a.elems, encL 3 encData a.datas] 0, ABlk.cells [encL 2 encFT b.types, encL 9 encImp b.imports, encL 3 encFn b.funcs, encL 3 encLim b.tables, encL 3 encLim b.memories, encL 3 encCell b.globals, encL 3 encExp b.exports, Value.bool b.starts, u32 b.start, encL 3 encElem b.elems, encL 3 encData b.datas] 0]) Q
                                else
                                  False
                            else
                              False
                    else
                      False
                else
                  False
          else
            False
      else
        False
    else
      LoopG Tryz.prog gs 0 (tab12.live 12 14) (its (bodyOf Tryz.f12) 14) ⟨12, slots 235 [(2, Value.pointer (some (Addr.mk 0 0 none))), (3, Value.pointer (some (Addr.mk 1 0 none))), (7, i64 0)], [], none⟩ (mem [ABlk.cells [encL 2 encFT a.types, encL 9 encImp a.imports, encL 3 encFn a.funcs, encL 3 encLim a.tables, encL 3 encLim a.memories, encL 3 encCell a.globals, encL 3 encExp a.exports, Value.bool a.starts, u32 a.start, encL 3 encElem a.elems, encL 3 encData a.datas] 0, ABlk.cells [encL 2 encFT b.types, encL 9 encImp b.imports, encL 3 encFn b.funcs, encL 3 encLim b.tables, encL 3 encLim b.memories, encL 3 encCell b.globals, encL 3 encExp b.exports, Value.bool b.starts, u32 b.start, encL 3 encElem b.elems, encL 3 encData b.datas] 0]) Q) := by kernel_rfl
theorem t12_14 (a : GModule) (b : GModule) (k : Int) (J : Nat → Value) (Q : Value → List ABlk → Prop) :
    SC tab12 Tryz.prog gs Q 4000 (its (bodyOf Tryz.f12) 14) ⟨12, mergeJ (tab12.live 12 14) J 0 (slots 235 [(2, ptrV 0), (3, ptrV 1), (7, i64 k)]), [], none⟩ (mem [ABlk.cells (cellsM a) 0, ABlk.cells (cellsM b) 0]) =
    (
    bif decide (k < nI (List.length a.datas)) then
      bif decide (0 ≤ k) && decide (k < nI (List.length a.datas)) then
        ∃ x1 : GData, ((List.map encData a.datas)[Int.toNat k]? = some (encData x1)) ∧
          bif decide (0 ≤ k) && decide (k < nI (List.length b.datas)) then
            ∃ x2 : GData, ((List.map encData b.datas)[Int.toNat k]? = some (encData x2)) ∧
              bif !decide (x1.memory = x2.memory) then
                Q (Value.bool false) []
              else
                bif decide (0 ≤ k) && decide (k < nI (List.length a.datas)) then
                  ∃ x3 : GData, ((List.map encData a.datas)[Int.toNat k]? = some (encData x3)) ∧
                    bif decide (0 ≤ k) && decide (k < nI (List.length b.datas)) then
                      ∃ x4 : GData, ((List.map encData b.datas)[Int.toNat k]? = some (encData x4)) ∧
                        ∃ y5 : Bool, (K1 Tryz.prog gs 44 [encL 9 encI x3.offset, encL 9 encI x4.offset] (Value.bool y5)) ∧
                          bif !y5 then
                            Q (Value.bool false) []
                          else
                            bif decide (0 ≤ k) && decide (k < nI (List.length a.datas)) then
                              ∃ x6 : GData, ((List.map encData a.datas)[Int.toNat k]? = some (encData x6)) ∧
                                ∃ s7 : ByteArray, (bytesOf (List.map u8 x6.bytes) = some s7.data.toList) ∧
                                  bif decide (0 ≤ k) && decide (k < nI (List.length b.datas)) then
                                    ∃ x8 : GData, ((List.map encData b.datas)[Int.toNat k]? = some (encData x8)) ∧
                                      ∃ s9 : ByteArray, (bytesOf (List.map u8 x8.bytes) = some s9.data.toList) ∧
                                        bif !ByteArray.toList s7 == ByteArray.toList s9 then
                                          Q (Value.bool false) []
                                        else
                                          LoopG Tryz.prog gs 0 (tab12.live 12 14) (its (bodyOf Tryz.f12) 14) ⟨12, slots 235 [(2, Value.pointer (some (Addr.mk 0 0 none))), (3, Value.pointer (some (Addr.mk 1 0 none))), (7, i64 (IntKind.wrap IntKind.i64 (k + 1)))], [], none⟩ (mem [ABlk.cells [encL 2 encFT a.types, encL 9 encImp a.imports, encL 3 encFn a.funcs, encL 3 encLim a.tables, encL 3 encLim a.memories, encL 3 encCell a.globals, encL 3 encExp a.exports, Value.bool a.starts, u32 a.start, encL 3 encElem a.elems, encL 3 encData a.datas] 0, ABlk.cells [encL 2 encFT b.types, encL 9 encImp b.imports, encL 3 encFn b.funcs, encL 3 encLim b.tables, encL 3 encLim b.memories, encL 3 encCell b.globals, encL 3 encExp b.exports, Value.bool b.starts, u32 b.start, encL 3 encElem b.elems, encL 3 encData b.datas] 0]) Q
                                  else
                                    False
                            else
                              False
                    else
                      False
                else
                  False
          else
            False
      else
        False
    else
      Q (Value.bool true) []) := by kernel_rfl
end Go.Proofs.YtmcmaklilfgdiaaGreat
