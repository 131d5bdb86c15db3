/- Symbolic runs, as they were printed. -/
import Derived.Test.YtmcmaklilfgdiaaGreatBa
namespace Go.Proofs.YtmcmaklilfgdiaaGreat
open Go Go.RowKit Ev
def tab4 : Tab := ⟨elemV, conV, fun _ _ => [], fun _ _ => [], 0⟩
theorem t4 (a : GModule) (b : GModule) (Q : Value → List ABlk → Prop) :
    SC tab4 Tryz.prog gs Q 4000 [.code (bodyOf Tryz.f4)] ⟨4, [encM a, encM b] ++ List.replicate (Tryz.f4.ntmps - 2) undef, [], none⟩ (AH.start gs) =
    (
    ∃ y1 : Bool, (K1 Tryz.prog gs 6 [] (Value.bool y1)) ∧
      bif !y1 then
        Q (Value.bool false) []
      else
        ∃ y2 : Bool, (K1 Tryz.prog gs 7 [Value.agg (Array.mk [encL 2 encFT a.types, encL 9 encImp a.imports, encL 3 encFn a.funcs, encL 3 encLim a.tables, encL 3 encLim a.memories, encL 3 encCell a.globals, encL 3 encExp a.exports, Value.bool a.starts, u32 a.start, encL 3 encElem a.elems, encL 3 encData a.datas])] (Value.bool y2)) ∧
          bif !y2 then
            Q (Value.bool true) []
          else
            ∃ y3 : Bool, (K1 Tryz.prog gs 7 [Value.agg (Array.mk [encL 2 encFT b.types, encL 9 encImp b.imports, encL 3 encFn b.funcs, encL 3 encLim b.tables, encL 3 encLim b.memories, encL 3 encCell b.globals, encL 3 encExp b.exports, Value.bool b.starts, u32 b.start, encL 3 encElem b.elems, encL 3 encData b.datas])] (Value.bool y3)) ∧
              bif !y3 then
                Q (Value.bool true) []
              else
                ∃ y4 : Bool, (K1 Tryz.prog gs 11 [Value.agg (Array.mk [encL 2 encFT a.types, encL 9 encImp a.imports, encL 3 encFn a.funcs, encL 3 encLim a.tables, encL 3 encLim a.memories, encL 3 encCell a.globals, encL 3 encExp a.exports, Value.bool a.starts, u32 a.start, encL 3 encElem a.elems, encL 3 encData a.datas]), Value.agg (Array.mk [encL 2 encFT b.types, encL 9 encImp b.imports, encL 3 encFn b.funcs, encL 3 encLim b.tables, encL 3 encLim b.memories, encL 3 encCell b.globals, encL 3 encExp b.exports, Value.bool b.starts, u32 b.start, encL 3 encElem b.elems, encL 3 encData b.datas])] (Value.bool y4)) ∧
                  ∃ y5 : GModule, (K1 Tryz.prog gs 10 [Value.agg (Array.mk [encL 2 encFT a.types, encL 9 encImp a.imports, encL 3 encFn a.funcs, encL 3 encLim a.tables, encL 3 encLim a.memories, encL 3 encCell a.globals, encL 3 encExp a.exports, Value.bool a.starts, u32 a.start, encL 3 encElem a.elems, encL 3 encData a.datas])] (encM y5)) ∧
                    ∃ y6 : GModule, (K1 Tryz.prog gs 10 [Value.agg (Array.mk [encL 2 encFT b.types, encL 9 encImp b.imports, encL 3 encFn b.funcs, encL 3 encLim b.tables, encL 3 encLim b.memories, encL 3 encCell b.globals, encL 3 encExp b.exports, Value.bool b.starts, u32 b.start, encL 3 encElem b.elems, encL 3 encData b.datas])] (encM y6)) ∧
                      ∃ y7 : Bool, (K1 Tryz.prog gs 12 [Value.agg (Array.mk [encL 2 encFT y5.types, encL 9 encImp y5.imports, encL 3 encFn y5.funcs, encL 3 encLim y5.tables, encL 3 encLim y5.memories, encL 3 encCell y5.globals, encL 3 encExp y5.exports, Value.bool y5.starts, u32 y5.start, encL 3 encElem y5.elems, encL 3 encData y5.datas]), Value.agg (Array.mk [encL 2 encFT y6.types, encL 9 encImp y6.imports, encL 3 encFn y6.funcs, encL 3 encLim y6.tables, encL 3 encLim y6.memories, encL 3 encCell y6.globals, encL 3 encExp y6.exports, Value.bool y6.starts, u32 y6.start, encL 3 encElem y6.elems, encL 3 encData y6.datas])] (Value.bool y7)) ∧
                        bif y4 == y7 then
                          ∃ y8 : Bool, (K1 Tryz.prog gs 11 [Value.agg (Array.mk [encL 2 encFT a.types, encL 9 encImp a.imports, encL 3 encFn a.funcs, encL 3 encLim a.tables, encL 3 encLim a.memories, encL 3 encCell a.globals, encL 3 encExp a.exports, Value.bool a.starts, u32 a.start, encL 3 encElem a.elems, encL 3 encData a.datas]), Value.agg (Array.mk [encL 2 encFT a.types, encL 9 encImp a.imports, encL 3 encFn a.funcs, encL 3 encLim a.tables, encL 3 encLim a.memories, encL 3 encCell a.globals, encL 3 encExp a.exports, Value.bool a.starts, u32 a.start, encL 3 encElem a.elems, encL 3 encData a.datas])] (Value.bool y8)) ∧
                            Q (Value.bool y8) []
                        else
                          Q (Value.bool false) []) := by kernel_rfl
end Go.Proofs.YtmcmaklilfgdiaaGreat
