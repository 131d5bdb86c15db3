/- Symbolic runs, as they were printed. -/
import Derived.Test.YtmcmaklilfgdiaaGreatBa
namespace Go.Proofs.YtmcmaklilfgdiaaGreat
open Go Go.RowKit Ev
def tab16 : Tab := ⟨elemV, conV, fun _ l => match l with | 2 => [1, 8, 9, 10] | 8 => [26, 27, 28] | _ => [], fun _ l => match l with | 8 => [(26, 3)] | 2 => [(8, 9)] | _ => [], 0⟩
theorem t16 (m : GModule) (Q : Value → List ABlk → Prop) :
    SC tab16 Tryz.prog gs Q 4000 [.code (bodyOf Tryz.f16)] ⟨16, [encM m] ++ List.replicate (Tryz.f16.ntmps - 1) undef, [], none⟩ (AH.start gs) =
    (
    LoopG Tryz.prog gs 0 (tab16.live 16 2) (its (bodyOf Tryz.f16) 2) ⟨16, slots 37 [(1, Value.pointer (some (Addr.mk 0 0 none))), (8, encL 9 encImp m.imports), (9, i64 (nI (List.length m.imports))), (10, i64 0)], [], none⟩ (mem [ABlk.cells [encL 2 encFT m.types, encL 9 encImp m.imports, encL 3 encFn m.funcs, encL 3 encLim m.tables, encL 3 encLim m.memories, encL 3 encCell m.globals, encL 3 encExp m.exports, Value.bool m.starts, u32 m.start, encL 3 encElem m.elems, encL 3 encData m.datas] 0]) Q) := by kernel_rfl
theorem t16_2 (m : GModule) (k : Int) (J : Nat → Value) (Q : Value → List ABlk → Prop) :
    SC tab16 Tryz.prog gs Q 4000 (its (bodyOf Tryz.f16) 2) ⟨16, mergeJ (tab16.live 16 2) J 0 (slots 37 [(1, ptrV 0), (8, encL 9 encImp m.imports), (9, i64 (nI (List.length m.imports))), (10, i64 k)]), [], none⟩ (mem [ABlk.cells (cellsM m) 0]) =
    (
    bif decide (k < nI (List.length m.imports)) then
      bif decide (0 ≤ k) && decide (k < nI (List.length m.imports)) then
        ∃ x1 : GImport, ((List.map encImp m.imports)[Int.toNat k]? = some (encImp x1)) ∧
          bif decide (100 < nI (ByteArray.size x1.module)) then
            Q (Value.bool false) []
          else
            bif decide (100 < nI (ByteArray.size x1.name)) then
              Q (Value.bool false) []
            else
              LoopG Tryz.prog gs 0 (tab16.live 16 2) (its (bodyOf Tryz.f16) 2) ⟨16, slots 37 [(1, Value.pointer (some (Addr.mk 0 0 none))), (8, encL 9 encImp m.imports), (9, i64 (nI (List.length m.imports))), (10, i64 (IntKind.wrap IntKind.i64 (k + 1)))], [], none⟩ (mem [ABlk.cells [encL 2 encFT m.types, encL 9 encImp m.imports, encL 3 encFn m.funcs, encL 3 encLim m.tables, encL 3 encLim m.memories, encL 3 encCell m.globals, encL 3 encExp m.exports, Value.bool m.starts, u32 m.start, encL 3 encElem m.elems, encL 3 encData m.datas] 0]) Q
      else
        False
    else
      LoopG Tryz.prog gs 0 (tab16.live 16 8) (its (bodyOf Tryz.f16) 8) ⟨16, slots 37 [(26, encL 3 encExp m.exports), (27, i64 (nI (List.length m.exports))), (28, i64 0)], [], none⟩ (mem []) Q) := by kernel_rfl
theorem t16_8 (m : GModule) (k : Int) (J : Nat → Value) (Q : Value → List ABlk → Prop) :
    SC tab16 Tryz.prog gs Q 4000 (its (bodyOf Tryz.f16) 8) ⟨16, mergeJ (tab16.live 16 8) J 0 (slots 37 [(26, encL 3 encExp m.exports), (27, i64 (nI (List.length m.exports))), (28, i64 k)]), [], none⟩ (mem []) =
    (
    bif decide (k < nI (List.length m.exports)) then
      bif decide (0 ≤ k) && decide (k < nI (List.length m.exports)) then
        ∃ x1 : GExport, ((List.map encExp m.exports)[Int.toNat k]? = some (encExp x1)) ∧
          bif decide (100 < nI (ByteArray.size x1.name)) then
            Q (Value.bool false) []
          else
            LoopG Tryz.prog gs 0 (tab16.live 16 8) (its (bodyOf Tryz.f16) 8) ⟨16, slots 37 [(26, encL 3 encExp m.exports), (27, i64 (nI (List.length m.exports))), (28, i64 (IntKind.wrap IntKind.i64 (k + 1)))], [], none⟩ (mem []) Q
      else
        False
    else
      Q (Value.bool true) []) := by kernel_rfl
def tab17 : Tab := ⟨elemV, conV, fun _ l => match l with | 2 => [1, 8, 9, 10] | 8 => [26, 27, 28] | _ => [], fun _ l => match l with | 8 => [(26, 3)] | 2 => [(8, 3)] | _ => [], 0⟩
theorem t17 (m : GModule) (Q : Value → List ABlk → Prop) :
    SC tab17 Tryz.prog gs Q 4000 [.code (bodyOf Tryz.f17)] ⟨17, [encM m] ++ List.replicate (Tryz.f17.ntmps - 1) undef, [], none⟩ (AH.start gs) =
    (
    LoopG Tryz.prog gs 0 (tab17.live 17 2) (its (bodyOf Tryz.f17) 2) ⟨17, slots 43 [(1, Value.pointer (some (Addr.mk 0 0 none))), (8, encL 3 encElem m.elems), (9, i64 (nI (List.length m.elems))), (10, i64 0)], [], none⟩ (mem [ABlk.cells [encL 2 encFT m.types, encL 9 encImp m.imports, encL 3 encFn m.funcs, encL 3 encLim m.tables, encL 3 encLim m.memories, encL 3 encCell m.globals, encL 3 encExp m.exports, Value.bool m.starts, u32 m.start, encL 3 encElem m.elems, encL 3 encData m.datas] 0]) Q) := by kernel_rfl
theorem t17_2 (m : GModule) (k : Int) (J : Nat → Value) (Q : Value → List ABlk → Prop) :
    SC tab17 Tryz.prog gs Q 4000 (its (bodyOf Tryz.f17) 2) ⟨17, mergeJ (tab17.live 17 2) J 0 (slots 43 [(1, ptrV 0), (8, encL 3 encElem m.elems), (9, i64 (nI (List.length m.elems))), (10, i64 k)]), [], none⟩ (mem [ABlk.cells (cellsM m) 0]) =
    (
    bif decide (k < nI (List.length m.elems)) then
      bif decide (0 ≤ k) && decide (k < nI (List.length m.elems)) then
        ∃ x1 : GElem, ((List.map encElem m.elems)[Int.toNat k]? = some (encElem x1)) ∧
          ∃ y2 : Bool, (K1 Tryz.prog gs 15 [encL 9 encI x1.offset] (Value.bool y2)) ∧
            bif !y2 then
              Q (Value.bool false) []
            else
              bif decide (5000 < nI (List.length x1.funcs)) then
                Q (Value.bool false) []
              else
                LoopG Tryz.prog gs 0 (tab17.live 17 2) (its (bodyOf Tryz.f17) 2) ⟨17, slots 43 [(1, Value.pointer (some (Addr.mk 0 0 none))), (8, encL 3 encElem m.elems), (9, i64 (nI (List.length m.elems))), (10, i64 (IntKind.wrap IntKind.i64 (k + 1)))], [], none⟩ (mem [ABlk.cells [encL 2 encFT m.types, encL 9 encImp m.imports, encL 3 encFn m.funcs, encL 3 encLim m.tables, encL 3 encLim m.memories, encL 3 encCell m.globals, encL 3 encExp m.exports, Value.bool m.starts, u32 m.start, encL 3 encElem m.elems, encL 3 encData m.datas] 0]) Q
      else
        False
    else
      LoopG Tryz.prog gs 0 (tab17.live 17 8) (its (bodyOf Tryz.f17) 8) ⟨17, slots 43 [(26, encL 3 encData m.datas), (27, i64 (nI (List.length m.datas))), (28, i64 0)], [], none⟩ (mem []) Q) := by kernel_rfl
theorem t17_8 (m : GModule) (k : Int) (J : Nat → Value) (Q : Value → List ABlk → Prop) :
    SC tab17 Tryz.prog gs Q 4000 (its (bodyOf Tryz.f17) 8) ⟨17, mergeJ (tab17.live 17 8) J 0 (slots 43 [(26, encL 3 encData m.datas), (27, i64 (nI (List.length m.datas))), (28, i64 k)]), [], none⟩ (mem []) =
    (
    bif decide (k < nI (List.length m.datas)) then
      bif decide (0 ≤ k) && decide (k < nI (List.length m.datas)) then
        ∃ x1 : GData, ((List.map encData m.datas)[Int.toNat k]? = some (encData x1)) ∧
          ∃ y2 : Bool, (K1 Tryz.prog gs 15 [encL 9 encI x1.offset] (Value.bool y2)) ∧
            bif !y2 then
              Q (Value.bool false) []
            else
              bif decide (5000 < nI (List.length x1.bytes)) then
                Q (Value.bool false) []
              else
                LoopG Tryz.prog gs 0 (tab17.live 17 8) (its (bodyOf Tryz.f17) 8) ⟨17, slots 43 [(26, encL 3 encData m.datas), (27, i64 (nI (List.length m.datas))), (28, i64 (IntKind.wrap IntKind.i64 (k + 1)))], [], none⟩ (mem []) Q
      else
        False
    else
      Q (Value.bool true) []) := by kernel_rfl
def tab7 : Tab := ⟨elemV, conV, fun _ l => match l with | 4 => [1, 62, 63, 64] | 10 => [1, 80, 81, 82] | 16 => [1, 98, 99, 100] | _ => [], fun _ l => match l with | 16 => [(98, 3)] | 10 => [(80, 3)] | 4 => [(62, 2)] | _ => [], 0⟩
theorem t7 (m : GModule) (Q : Value → List ABlk → Prop) :
    SC tab7 Tryz.prog gs Q 4000 [.code (bodyOf Tryz.f7)] ⟨7, [encM m] ++ List.replicate (Tryz.f7.ntmps - 1) undef, [], none⟩ (AH.start gs) =
    (
    bif decide (50 < nI (List.length m.types)) then
      Q (Value.bool false) []
    else
      bif decide (50 < nI (List.length m.imports)) then
        Q (Value.bool false) []
      else
        bif decide (50 < nI (List.length m.funcs)) then
          Q (Value.bool false) []
        else
          bif decide (50 < nI (List.length m.tables)) then
            Q (Value.bool false) []
          else
            bif decide (50 < nI (List.length m.memories)) then
              Q (Value.bool false) []
            else
              bif decide (50 < nI (List.length m.globals)) then
                Q (Value.bool false) []
              else
                bif decide (50 < nI (List.length m.exports)) then
                  Q (Value.bool false) []
                else
                  bif decide (50 < nI (List.length m.elems)) then
                    Q (Value.bool false) []
                  else
                    bif decide (50 < nI (List.length m.datas)) then
                      Q (Value.bool false) []
                    else
                      LoopG Tryz.prog gs 0 (tab7.live 7 4) (its (bodyOf Tryz.f7) 4) ⟨7, slots 115 [(1, Value.pointer (some (Addr.mk 0 0 none))), (62, encL 2 encFT m.types), (63, i64 (nI (List.length m.types))), (64, i64 0)], [], none⟩ (mem [ABlk.cells [encL 2 encFT m.types, encL 9 encImp m.imports, encL 3 encFn m.funcs, encL 3 encLim m.tables, encL 3 encLim m.memories, encL 3 encCell m.globals, encL 3 encExp m.exports, Value.bool m.starts, u32 m.start, encL 3 encElem m.elems, encL 3 encData m.datas] 0]) Q) := by kernel_rfl
theorem t7_4 (m : GModule) (k : Int) (J : Nat → Value) (Q : Value → List ABlk → Prop) :
    SC tab7 Tryz.prog gs Q 4000 (its (bodyOf Tryz.f7) 4) ⟨7, mergeJ (tab7.live 7 4) J 0 (slots 115 [(1, ptrV 0), (62, encL 2 encFT m.types), (63, i64 (nI (List.length m.types))), (64, i64 k)]), [], none⟩ (mem [ABlk.cells (cellsM m) 0]) =
    (
    bif decide (k < nI (List.length m.types)) then
      bif decide (0 ≤ k) && decide (k < nI (List.length m.types)) then
        ∃ x1 : GFuncType, ((List.map encFT m.types)[Int.toNat k]? = some (encFT x1)) ∧
          bif decide (100 < nI (List.length x1.params)) then
            Q (Value.bool false) []
          else
            bif decide (100 < nI (List.length x1.results)) then
              Q (Value.bool false) []
            else
              LoopG Tryz.prog gs 0 (tab7.live 7 4) (its (bodyOf Tryz.f7) 4) ⟨7, slots 115 [(1, Value.pointer (some (Addr.mk 0 0 none))), (62, encL 2 encFT m.types), (63, i64 (nI (List.length m.types))), (64, i64 (IntKind.wrap IntKind.i64 (k + 1)))], [], none⟩ (mem [ABlk.cells [encL 2 encFT m.types, encL 9 encImp m.imports, encL 3 encFn m.funcs, encL 3 encLim m.tables, encL 3 encLim m.memories, encL 3 encCell m.globals, encL 3 encExp m.exports, Value.bool m.starts, u32 m.start, encL 3 encElem m.elems, encL 3 encData m.datas] 0]) Q
      else
        False
    else
      LoopG Tryz.prog gs 0 (tab7.live 7 10) (its (bodyOf Tryz.f7) 10) ⟨7, slots 115 [(1, Value.pointer (some (Addr.mk 0 0 none))), (80, encL 3 encFn m.funcs), (81, i64 (nI (List.length m.funcs))), (82, i64 0)], [], none⟩ (mem [ABlk.cells [encL 2 encFT m.types, encL 9 encImp m.imports, encL 3 encFn m.funcs, encL 3 encLim m.tables, encL 3 encLim m.memories, encL 3 encCell m.globals, encL 3 encExp m.exports, Value.bool m.starts, u32 m.start, encL 3 encElem m.elems, encL 3 encData m.datas] 0]) Q) := by kernel_rfl
theorem t7_10 (m : GModule) (k : Int) (J : Nat → Value) (Q : Value → List ABlk → Prop) :
    SC tab7 Tryz.prog gs Q 4000 (its (bodyOf Tryz.f7) 10) ⟨7, mergeJ (tab7.live 7 10) J 0 (slots 115 [(1, ptrV 0), (80, encL 3 encFn m.funcs), (81, i64 (nI (List.length m.funcs))), (82, i64 k)]), [], none⟩ (mem [ABlk.cells (cellsM m) 0]) =
    (
    bif decide (k < nI (List.length m.funcs)) then
      bif decide (0 ≤ k) && decide (k < nI (List.length m.funcs)) then
        ∃ x1 : GFn, ((List.map encFn m.funcs)[Int.toNat k]? = some (encFn x1)) ∧
          bif decide (2000 < nI (List.length x1.locals)) then
            Q (Value.bool false) []
          else
            ∃ y2 : Bool, (K1 Tryz.prog gs 15 [encL 9 encI x1.body] (Value.bool y2)) ∧
              bif !y2 then
                Q (Value.bool false) []
              else
                LoopG Tryz.prog gs 0 (tab7.live 7 10) (its (bodyOf Tryz.f7) 10) ⟨7, slots 115 [(1, Value.pointer (some (Addr.mk 0 0 none))), (80, encL 3 encFn m.funcs), (81, i64 (nI (List.length m.funcs))), (82, i64 (IntKind.wrap IntKind.i64 (k + 1)))], [], none⟩ (mem [ABlk.cells [encL 2 encFT m.types, encL 9 encImp m.imports, encL 3 encFn m.funcs, encL 3 encLim m.tables, encL 3 encLim m.memories, encL 3 encCell m.globals, encL 3 encExp m.exports, Value.bool m.starts, u32 m.start, encL 3 encElem m.elems, encL 3 encData m.datas] 0]) Q
      else
        False
    else
      LoopG Tryz.prog gs 0 (tab7.live 7 16) (its (bodyOf Tryz.f7) 16) ⟨7, slots 115 [(1, Value.pointer (some (Addr.mk 0 0 none))), (98, encL 3 encCell m.globals), (99, i64 (nI (List.length m.globals))), (100, i64 0)], [], none⟩ (mem [ABlk.cells [encL 2 encFT m.types, encL 9 encImp m.imports, encL 3 encFn m.funcs, encL 3 encLim m.tables, encL 3 encLim m.memories, encL 3 encCell m.globals, encL 3 encExp m.exports, Value.bool m.starts, u32 m.start, encL 3 encElem m.elems, encL 3 encData m.datas] 0]) Q) := by kernel_rfl
theorem t7_16 (m : GModule) (k : Int) (J : Nat → Value) (Q : Value → List ABlk → Prop) :
    SC tab7 Tryz.prog gs Q 4000 (its (bodyOf Tryz.f7) 16) ⟨7, mergeJ (tab7.live 7 16) J 0 (slots 115 [(1, ptrV 0), (98, encL 3 encCell m.globals), (99, i64 (nI (List.length m.globals))), (100, i64 k)]), [], none⟩ (mem [ABlk.cells (cellsM m) 0]) =
    (
    bif decide (k < nI (List.length m.globals)) then
      bif decide (0 ≤ k) && decide (k < nI (List.length m.globals)) then
        ∃ x1 : GCell, ((List.map encCell m.globals)[Int.toNat k]? = some (encCell x1)) ∧
          ∃ y2 : Bool, (K1 Tryz.prog gs 15 [encL 9 encI x1.init] (Value.bool y2)) ∧
            bif !y2 then
              Q (Value.bool false) []
            else
              LoopG Tryz.prog gs 0 (tab7.live 7 16) (its (bodyOf Tryz.f7) 16) ⟨7, slots 115 [(1, Value.pointer (some (Addr.mk 0 0 none))), (98, encL 3 encCell m.globals), (99, i64 (nI (List.length m.globals))), (100, i64 (IntKind.wrap IntKind.i64 (k + 1)))], [], none⟩ (mem [ABlk.cells [encL 2 encFT m.types, encL 9 encImp m.imports, encL 3 encFn m.funcs, encL 3 encLim m.tables, encL 3 encLim m.memories, encL 3 encCell m.globals, encL 3 encExp m.exports, Value.bool m.starts, u32 m.start, encL 3 encElem m.elems, encL 3 encData m.datas] 0]) Q
      else
        False
    else
      ∃ y3 : Bool, (K1 Tryz.prog gs 16 [Value.agg (Array.mk [encL 2 encFT m.types, encL 9 encImp m.imports, encL 3 encFn m.funcs, encL 3 encLim m.tables, encL 3 encLim m.memories, encL 3 encCell m.globals, encL 3 encExp m.exports, Value.bool m.starts, u32 m.start, encL 3 encElem m.elems, encL 3 encData m.datas])] (Value.bool y3)) ∧
        bif y3 then
          ∃ y4 : Bool, (K1 Tryz.prog gs 17 [Value.agg (Array.mk [encL 2 encFT m.types, encL 9 encImp m.imports, encL 3 encFn m.funcs, encL 3 encLim m.tables, encL 3 encLim m.memories, encL 3 encCell m.globals, encL 3 encExp m.exports, Value.bool m.starts, u32 m.start, encL 3 encElem m.elems, encL 3 encData m.datas])] (Value.bool y4)) ∧
            Q (Value.bool y4) []
        else
          Q (Value.bool false) []) := by kernel_rfl
end Go.Proofs.YtmcmaklilfgdiaaGreat
