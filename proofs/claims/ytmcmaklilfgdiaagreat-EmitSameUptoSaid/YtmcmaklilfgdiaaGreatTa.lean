/- Symbolic runs, as they were printed. -/
import Derived.Test.YtmcmaklilfgdiaaGreatBa
namespace Go.Proofs.YtmcmaklilfgdiaaGreat
open Go Go.RowKit Ev
def tab15 : Tab := ⟨elemV, conV, fun _ l => match l with | 3 => [3, 6, 7, 8] | _ => [], fun _ l => match l with | 3 => [(6, 9)] | _ => [], 0⟩
theorem t15 (l : List Instr) (Q : Value → List ABlk → Prop) :
    SC tab15 Tryz.prog gs Q 4000 [.code (bodyOf Tryz.f15)] ⟨15, [encL 9 encI l] ++ List.replicate (Tryz.f15.ntmps - 1) undef, [], none⟩ (AH.start gs) =
    (
    LoopG Tryz.prog gs 0 (tab15.live 15 3) (its (bodyOf Tryz.f15) 3) ⟨15, slots 29 [(3, i64 0), (6, encL 9 encI l), (7, i64 (nI (List.length l))), (8, i64 0)], [], none⟩ (mem []) Q) := by kernel_rfl
theorem t15_3 (l : List Instr) (n : Int) (k : Int) (J : Nat → Value) (Q : Value → List ABlk → Prop) :
    SC tab15 Tryz.prog gs Q 4000 (its (bodyOf Tryz.f15) 3) ⟨15, mergeJ (tab15.live 15 3) J 0 (slots 29 [(3, i64 n), (6, encL 9 encI l), (7, i64 (nI (List.length l))), (8, i64 k)]), [], none⟩ (mem []) =
    (
    bif decide (k < nI (List.length l)) then
      bif decide (0 ≤ k) && decide (k < nI (List.length l)) then
        ∃ x1 : Instr, ((List.map encI l)[Int.toNat k]? = some (encI x1)) ∧
          LoopG Tryz.prog gs 0 (tab15.live 15 3) (its (bodyOf Tryz.f15) 3) ⟨15, slots 29 [(3, i64 (IntKind.wrap IntKind.i64 (n + IntKind.wrap IntKind.i64 (IntKind.wrap IntKind.i64 (IntKind.wrap IntKind.i64 (1 + nI (List.length (Instr.then_ x1))) + nI (List.length (Instr.else_ x1))) + nI (List.length (Instr.list x1)))))), (6, encL 9 encI l), (7, i64 (nI (List.length l))), (8, i64 (IntKind.wrap IntKind.i64 (k + 1)))], [], none⟩ (mem []) Q
      else
        False
    else
      Q (Value.bool (decide (n ≤ 3000))) []) := by kernel_rfl
def tab27 : Tab := ⟨elemV, conV, fun _ l => match l with | 3 => [3, 6, 7, 8] | _ => [], fun _ l => match l with | 3 => [(3, 9), (6, 9)] | _ => [], 0⟩
theorem t27 (l : List Instr) (Q : Value → List ABlk → Prop) :
    SC tab27 Tryz.prog gs Q 4000 [.code (bodyOf Tryz.f27)] ⟨27, [encL 9 encI l] ++ List.replicate (Tryz.f27.ntmps - 1) undef, [], none⟩ (AH.start gs) =
    (
    LoopG Tryz.prog gs 0 (tab27.live 27 3) (its (bodyOf Tryz.f27) 3) ⟨27, slots 38 [(3, ownV 0), (6, encL 9 encI l), (7, i64 (nI (List.length l))), (8, i64 0)], [], none⟩ (mem [ABlk.lst 0 [] 9]) Q) := by kernel_rfl
theorem t27_3 (l : List Instr) (out : List Instr) (k : Int) (J : Nat → Value) (Q : Value → List ABlk → Prop) :
    SC tab27 Tryz.prog gs Q 4000 (its (bodyOf Tryz.f27) 3) ⟨27, mergeJ (tab27.live 27 3) J 0 (slots 38 [(3, ownV 0), (6, encL 9 encI l), (7, i64 (nI (List.length l))), (8, i64 k)]), [], none⟩ (mem [ABlk.lst (List.length out) (List.map encI out) 9]) =
    (
    bif decide (k < nI (List.length l)) then
      bif decide (0 ≤ k) && decide (k < nI (List.length l)) then
        ∃ x1 : Instr, ((List.map encI l)[Int.toNat k]? = some (encI x1)) ∧
          ∃ y2 : List Instr, (K1 Tryz.prog gs 27 [encL 9 encI (Instr.then_ x1)] (encL 9 encI y2)) ∧
            ∃ y3 : List Instr, (K1 Tryz.prog gs 27 [encL 9 encI (Instr.else_ x1)] (encL 9 encI y3)) ∧
              bif Nat.ble (List.length out + 1) 1048576 then
                LoopG Tryz.prog gs 0 (tab27.live 27 3) (its (bodyOf Tryz.f27) 3) ⟨27, slots 38 [(3, ownV 0), (6, encL 9 encI l), (7, i64 (nI (List.length l))), (8, i64 (IntKind.wrap IntKind.i64 (k + 1)))], [], none⟩ (mem [ABlk.lst (List.length out + 1) (List.map encI out ++ [Value.agg (Array.mk [i64 (Instr.op x1), u8 (Instr.ty x1), u32 (Instr.a x1), u32 (Instr.b x1), u64 (Instr.bits x1), encL 1 u32 (Instr.list x1), encL 9 encI y2, encL 9 encI y3, Value.bool (Instr.has x1)])]) 9]) Q
              else
                False
      else
        False
    else
      Q (encL 9 encI out) []) := by kernel_rfl
end Go.Proofs.YtmcmaklilfgdiaaGreat
