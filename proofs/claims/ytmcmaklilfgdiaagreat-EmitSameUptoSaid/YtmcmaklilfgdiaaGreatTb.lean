/- Symbolic runs, as they were printed. -/
import Derived.Test.YtmcmaklilfgdiaaGreatBa
namespace Go.Proofs.YtmcmaklilfgdiaaGreat
open Go Go.RowKit Ev
def tab94 : Tab := ⟨elemV, conV, fun _ l => match l with | 4 => [0, 1, 12, 13] | _ => [], fun _ _ => [], 0⟩
theorem t94 (a : List Int) (b : List Int) (Q : Value → List ABlk → Prop) :
    SC tab94 Tryz.prog gs Q 4000 [.code (bodyOf Tryz.f94)] ⟨94, [bytesV a, bytesV b] ++ List.replicate (Tryz.f94.ntmps - 2) undef, [], none⟩ (AH.start gs) =
    (
    bif !decide (nI (List.length a) = nI (List.length b)) then
      Q (Value.bool false) []
    else
      LoopG Tryz.prog gs 0 (tab94.live 94 4) (its (bodyOf Tryz.f94) 4) ⟨94, slots 26 [(0, encL 1 u8 a), (1, encL 1 u8 b), (12, i64 (nI (List.length a))), (13, i64 0)], [], none⟩ (mem []) Q) := by kernel_rfl
theorem t94_4 (a : List Int) (b : List Int) (k : Int) (J : Nat → Value) (Q : Value → List ABlk → Prop) :
    SC tab94 Tryz.prog gs Q 4000 (its (bodyOf Tryz.f94) 4) ⟨94, mergeJ (tab94.live 94 4) J 0 (slots 26 [(0, bytesV a), (1, bytesV b), (12, i64 (nI (List.length a))), (13, i64 k)]), [], none⟩ (mem []) =
    (
    bif decide (k < nI (List.length a)) then
      bif decide (0 ≤ k) && decide (k < nI (List.length a)) then
        ∃ x1 : Int, ((List.map u8 a)[Int.toNat k]? = some (u8 x1)) ∧
          bif decide (0 ≤ k) && decide (k < nI (List.length b)) then
            ∃ x2 : Int, ((List.map u8 b)[Int.toNat k]? = some (u8 x2)) ∧
              bif !decide (x1 = x2) then
                Q (Value.bool false) []
              else
                LoopG Tryz.prog gs 0 (tab94.live 94 4) (its (bodyOf Tryz.f94) 4) ⟨94, slots 26 [(0, encL 1 u8 a), (1, encL 1 u8 b), (12, i64 (nI (List.length a))), (13, i64 (IntKind.wrap IntKind.i64 (k + 1)))], [], none⟩ (mem []) Q
          else
            False
      else
        False
    else
      Q (Value.bool true) []) := by kernel_rfl
def tab95 : Tab := ⟨elemV, conV, fun _ l => match l with | 4 => [0, 1, 12, 13] | _ => [], fun _ _ => [], 0⟩
theorem t95 (a : List Int) (b : List Int) (Q : Value → List ABlk → Prop) :
    SC tab95 Tryz.prog gs Q 4000 [.code (bodyOf Tryz.f95)] ⟨95, [words a, words b] ++ List.replicate (Tryz.f95.ntmps - 2) undef, [], none⟩ (AH.start gs) =
    (
    bif !decide (nI (List.length a) = nI (List.length b)) then
      Q (Value.bool false) []
    else
      LoopG Tryz.prog gs 0 (tab95.live 95 4) (its (bodyOf Tryz.f95) 4) ⟨95, slots 26 [(0, encL 1 u32 a), (1, encL 1 u32 b), (12, i64 (nI (List.length a))), (13, i64 0)], [], none⟩ (mem []) Q) := by kernel_rfl
theorem t95_4 (a : List Int) (b : List Int) (k : Int) (J : Nat → Value) (Q : Value → List ABlk → Prop) :
    SC tab95 Tryz.prog gs Q 4000 (its (bodyOf Tryz.f95) 4) ⟨95, mergeJ (tab95.live 95 4) J 0 (slots 26 [(0, words a), (1, words b), (12, i64 (nI (List.length a))), (13, i64 k)]), [], none⟩ (mem []) =
    (
    bif decide (k < nI (List.length a)) then
      bif decide (0 ≤ k) && decide (k < nI (List.length a)) then
        ∃ x1 : Int, ((List.map u32 a)[Int.toNat k]? = some (u32 x1)) ∧
          bif decide (0 ≤ k) && decide (k < nI (List.length b)) then
            ∃ x2 : Int, ((List.map u32 b)[Int.toNat k]? = some (u32 x2)) ∧
              bif !decide (x1 = x2) then
                Q (Value.bool false) []
              else
                LoopG Tryz.prog gs 0 (tab95.live 95 4) (its (bodyOf Tryz.f95) 4) ⟨95, slots 26 [(0, encL 1 u32 a), (1, encL 1 u32 b), (12, i64 (nI (List.length a))), (13, i64 (IntKind.wrap IntKind.i64 (k + 1)))], [], none⟩ (mem []) Q
          else
            False
      else
        False
    else
      Q (Value.bool true) []) := by kernel_rfl
def tab30 : Tab := ⟨elemV, conV, fun _ l => match l with | 4 => [0, 1, 12, 13] | _ => [], fun _ _ => [], 0⟩
theorem t30 (a : List GImport) (b : List GImport) (Q : Value → List ABlk → Prop) :
    SC tab30 Tryz.prog gs Q 4000 [.code (bodyOf Tryz.f30)] ⟨30, [encL 9 encImp a, encL 9 encImp b] ++ List.replicate (Tryz.f30.ntmps - 2) undef, [], none⟩ (AH.start gs) =
    (
    bif !decide (nI (List.length a) = nI (List.length b)) then
      Q (Value.bool false) []
    else
      LoopG Tryz.prog gs 0 (tab30.live 30 4) (its (bodyOf Tryz.f30) 4) ⟨30, slots 26 [(0, encL 9 encImp a), (1, encL 9 encImp b), (12, i64 (nI (List.length a))), (13, i64 0)], [], none⟩ (mem []) Q) := by kernel_rfl
theorem t30_4 (a : List GImport) (b : List GImport) (k : Int) (J : Nat → Value) (Q : Value → List ABlk → Prop) :
    SC tab30 Tryz.prog gs Q 4000 (its (bodyOf Tryz.f30) 4) ⟨30, mergeJ (tab30.live 30 4) J 0 (slots 26 [(0, encL 9 encImp a), (1, encL 9 encImp b), (12, i64 (nI (List.length a))), (13, i64 k)]), [], none⟩ (mem []) =
    (
    bif decide (k < nI (List.length a)) then
      bif decide (0 ≤ k) && decide (k < nI (List.length a)) then
        ∃ x1 : GImport, ((List.map encImp a)[Int.toNat k]? = some (encImp x1)) ∧
          bif decide (0 ≤ k) && decide (k < nI (List.length b)) then
            ∃ x2 : GImport, ((List.map encImp b)[Int.toNat k]? = some (encImp x2)) ∧
              bif !(x1.module == x2.module && (x1.name == x2.name && (x1.kind == x2.kind && (x1.ty == x2.ty && (x1.limits.min == x2.limits.min && (x1.limits.max == x2.limits.max && (x1.limits.has == x2.limits.has && true)) && (x1.value == x2.value && (x1.mut_ == x2.mut_ && true) && true)))))) then
                Q (Value.bool false) []
              else
                LoopG Tryz.prog gs 0 (tab30.live 30 4) (its (bodyOf Tryz.f30) 4) ⟨30, slots 26 [(0, encL 9 encImp a), (1, encL 9 encImp b), (12, i64 (nI (List.length a))), (13, i64 (IntKind.wrap IntKind.i64 (k + 1)))], [], none⟩ (mem []) Q
          else
            False
      else
        False
    else
      Q (Value.bool true) []) := by kernel_rfl
def tab31 : Tab := ⟨elemV, conV, fun _ l => match l with | 4 => [0, 1, 12, 13] | _ => [], fun _ _ => [], 0⟩
theorem t31 (a : List GExport) (b : List GExport) (Q : Value → List ABlk → Prop) :
    SC tab31 Tryz.prog gs Q 4000 [.code (bodyOf Tryz.f31)] ⟨31, [encL 3 encExp a, encL 3 encExp b] ++ List.replicate (Tryz.f31.ntmps - 2) undef, [], none⟩ (AH.start gs) =
    (
    bif !decide (nI (List.length a) = nI (List.length b)) then
      Q (Value.bool false) []
    else
      LoopG Tryz.prog gs 0 (tab31.live 31 4) (its (bodyOf Tryz.f31) 4) ⟨31, slots 26 [(0, encL 3 encExp a), (1, encL 3 encExp b), (12, i64 (nI (List.length a))), (13, i64 0)], [], none⟩ (mem []) Q) := by kernel_rfl
theorem t31_4 (a : List GExport) (b : List GExport) (k : Int) (J : Nat → Value) (Q : Value → List ABlk → Prop) :
    SC tab31 Tryz.prog gs Q 4000 (its (bodyOf Tryz.f31) 4) ⟨31, mergeJ (tab31.live 31 4) J 0 (slots 26 [(0, encL 3 encExp a), (1, encL 3 encExp b), (12, i64 (nI (List.length a))), (13, i64 k)]), [], none⟩ (mem []) =
    (
    bif decide (k < nI (List.length a)) then
      bif decide (0 ≤ k) && decide (k < nI (List.length a)) then
        ∃ x1 : GExport, ((List.map encExp a)[Int.toNat k]? = some (encExp x1)) ∧
          bif decide (0 ≤ k) && decide (k < nI (List.length b)) then
            ∃ x2 : GExport, ((List.map encExp b)[Int.toNat k]? = some (encExp x2)) ∧
              bif !(x1.name == x2.name && (x1.kind == x2.kind && (x1.index == x2.index && true))) then
                Q (Value.bool false) []
              else
                LoopG Tryz.prog gs 0 (tab31.live 31 4) (its (bodyOf Tryz.f31) 4) ⟨31, slots 26 [(0, encL 3 encExp a), (1, encL 3 encExp b), (12, i64 (nI (List.length a))), (13, i64 (IntKind.wrap IntKind.i64 (k + 1)))], [], none⟩ (mem []) Q
          else
            False
      else
        False
    else
      Q (Value.bool true) []) := by kernel_rfl
def tab32 : Tab := ⟨elemV, conV, fun _ l => match l with | 4 => [0, 1, 12, 13] | _ => [], fun _ _ => [], 0⟩
theorem t32 (a : List GLimits) (b : List GLimits) (Q : Value → List ABlk → Prop) :
    SC tab32 Tryz.prog gs Q 4000 [.code (bodyOf Tryz.f32)] ⟨32, [encL 3 encLim a, encL 3 encLim b] ++ List.replicate (Tryz.f32.ntmps - 2) undef, [], none⟩ (AH.start gs) =
    (
    bif !decide (nI (List.length a) = nI (List.length b)) then
      Q (Value.bool false) []
    else
      LoopG Tryz.prog gs 0 (tab32.live 32 4) (its (bodyOf Tryz.f32) 4) ⟨32, slots 26 [(0, encL 3 encLim a), (1, encL 3 encLim b), (12, i64 (nI (List.length a))), (13, i64 0)], [], none⟩ (mem []) Q) := by kernel_rfl
theorem t32_4 (a : List GLimits) (b : List GLimits) (k : Int) (J : Nat → Value) (Q : Value → List ABlk → Prop) :
    SC tab32 Tryz.prog gs Q 4000 (its (bodyOf Tryz.f32) 4) ⟨32, mergeJ (tab32.live 32 4) J 0 (slots 26 [(0, encL 3 encLim a), (1, encL 3 encLim b), (12, i64 (nI (List.length a))), (13, i64 k)]), [], none⟩ (mem []) =
    (
    bif decide (k < nI (List.length a)) then
      bif decide (0 ≤ k) && decide (k < nI (List.length a)) then
        ∃ x1 : GLimits, ((List.map encLim a)[Int.toNat k]? = some (encLim x1)) ∧
          bif decide (0 ≤ k) && decide (k < nI (List.length b)) then
            ∃ x2 : GLimits, ((List.map encLim b)[Int.toNat k]? = some (encLim x2)) ∧
              bif !(x1.min == x2.min && (x1.max == x2.max && (x1.has == x2.has && true))) then
                Q (Value.bool false) []
              else
                LoopG Tryz.prog gs 0 (tab32.live 32 4) (its (bodyOf Tryz.f32) 4) ⟨32, slots 26 [(0, encL 3 encLim a), (1, encL 3 encLim b), (12, i64 (nI (List.length a))), (13, i64 (IntKind.wrap IntKind.i64 (k + 1)))], [], none⟩ (mem []) Q
          else
            False
      else
        False
    else
      Q (Value.bool true) []) := by kernel_rfl
end Go.Proofs.YtmcmaklilfgdiaaGreat
