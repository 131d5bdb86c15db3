/- Few, as the program tells it. -/
import Derived.Test.YtmcmaklilfgdiaaGreatTf
import Derived.Test.YtmcmaklilfgdiaaGreatCe
namespace Go.Proofs.YtmcmaklilfgdiaaGreat
open Go Go.RowKit Ev

/-- a list's members told one by one, until one fails -/
theorem alls {α : Type} (l : List α) (p : α → Bool) (L : Nat → Prop) (End Bad : Prop) (h1 : End → L l.length)
    (h2 : ∀ k (hk : k < l.length), (p l[k] = true → L (k + 1)) → (p l[k] = false → Bad) → L k) (hE : l.all p = true → End) (hB : l.all p = false → Bad) : L 0 := by
  have main : ∀ n k, n + k = l.length → ((l.drop k).all p = true → End) → ((l.drop k).all p = false → Bad) → L k := by
    intro n
    induction n with
    | zero =>
      intro k hk hE hB
      rw [show k = l.length by omega]
      refine h1 (hE ?_)
      rw [List.drop_of_length_le (by omega)]
      rfl
    | succ n ih =>
      intro k hk hE hB
      have hl : k < l.length := by omega
      rw [List.drop_eq_getElem_cons hl, List.all_cons] at hE hB
      refine h2 k hl (fun e => ?_) (fun e => hB (by rw [e]; rfl))
      rw [e, Bool.true_and] at hE hB
      exact ih (k + 1) (by omega) hE hB
  exact main l.length 0 (by omega) hE hB

theorem by_g {Q : Value → List ABlk → Prop} {c rest : Bool} {Y : Prop} (hq : (!c && rest) = false → Q (.bool false) []) (hy : (!c) = true → Y) : bif c then Q (.bool false) [] else Y := by
  cases c with
  | true => exact hq rfl
  | false => exact hy rfl
theorem by_lg {c : Bool} {Y Z : Prop} (hy : (!c) = true → Y) (hz : (!c) = false → Z) : bif c then Z else Y := by
  cases c with
  | true => exact hz rfl
  | false => exact hy rfl

def impP (x : GImport) : Bool := !decide (100 < nI x.module.size) && !decide (100 < nI x.name.size)
def expP (x : GExport) : Bool := !decide (100 < nI x.name.size)
def elemP (x : GElem) : Bool := decide (codeN x.offset ≤ 3000) && !decide (5000 < nI x.funcs.length)
def dataP (x : GData) : Bool := decide (codeN x.offset ≤ 3000) && !decide (5000 < nI x.bytes.length)
def ftP (x : GFuncType) : Bool := !decide (100 < nI x.params.length) && !decide (100 < nI x.results.length)
def fnP (x : GFn) : Bool := !decide (2000 < nI x.locals.length) && decide (codeN x.body ≤ 3000)
def cellP (x : GCell) : Bool := decide (codeN x.init ≤ 3000)
/-- the names are short -/
def namesB (m : GModule) : Bool := m.imports.all impP && m.exports.all expP
/-- the segments are short -/
def segsB (m : GModule) : Bool := m.elems.all elemP && m.datas.all dataP
/-- a module is small -/
def fewB (m : GModule) : Bool := !decide (50 < nI m.types.length) && (!decide (50 < nI m.imports.length) && (!decide (50 < nI m.funcs.length) && (!decide (50 < nI m.tables.length) && (!decide (50 < nI m.memories.length) && (!decide (50 < nI m.globals.length) && (!decide (50 < nI m.exports.length) && (!decide (50 < nI m.elems.length) && (!decide (50 < nI m.datas.length) &&
  (m.types.all ftP && (m.funcs.all fnP && (m.globals.all cellP && (namesB m && segsB m))))))))))))

theorem lp16_8 (m : GModule) (hl : m.exports.length ≤ 1048576) (Q : Value → List ABlk → Prop) (hE : m.exports.all expP = true → Q (.bool true) []) (hB : m.exports.all expP = false → Q (.bool false) []) :
    LoopG Tryz.prog gs 0 (tab16.live 16 8) (its (bodyOf Tryz.f16) 8) ⟨16, slots 37 [(26, encL 3 encExp m.exports), (27, i64 m.exports.length), (28, i64 (nI 0))], [], none⟩ (mem []) Q := by
  refine alls m.exports expP (fun k => LoopG Tryz.prog gs 0 (tab16.live 16 8) (its (bodyOf Tryz.f16) 8) ⟨16, slots 37 [(26, encL 3 encExp m.exports), (27, i64 m.exports.length), (28, i64 (nI k))], [], none⟩ (mem []) Q) _ _ (fun hE => ?_) (fun k hk hn hB => ?_) hE hB
  · refine LoopG_of (T := tab16) mixedP noGoP 4000 (by kernel_rfl) fun J => ?_
    rw [t16_8]
    exact bif_f ltF hE
  · refine LoopG_of (T := tab16) mixedP noGoP 4000 (by kernel_rfl) fun J => ?_
    rw [t16_8]
    refine bif_t (ltT hk) (bif_t (inb hk) ⟨_, getK _ hk, ?_⟩)
    rw [expP] at hB hn
    exact by_lg (fun h => by rw [wrapS' hk hl]; exact hn h) hB

theorem lp16_2 (m : GModule) (hl : m.imports.length ≤ 1048576) (Q : Value → List ABlk → Prop) (hE : m.imports.all impP = true → LoopG Tryz.prog gs 0 (tab16.live 16 8) (its (bodyOf Tryz.f16) 8) ⟨16, slots 37 [(26, encL 3 encExp m.exports), (27, i64 m.exports.length), (28, i64 (nI 0))], [], none⟩ (mem []) Q) (hB : m.imports.all impP = false → Q (.bool false) []) :
    LoopG Tryz.prog gs 0 (tab16.live 16 2) (its (bodyOf Tryz.f16) 2) ⟨16, slots 37 [(1, ptrV 0), (8, encL 9 encImp m.imports), (9, i64 m.imports.length), (10, i64 (nI 0))], [], none⟩ (mem [.cells (cellsM m) 0]) Q := by
  refine alls m.imports impP (fun k => LoopG Tryz.prog gs 0 (tab16.live 16 2) (its (bodyOf Tryz.f16) 2) ⟨16, slots 37 [(1, ptrV 0), (8, encL 9 encImp m.imports), (9, i64 m.imports.length), (10, i64 (nI k))], [], none⟩ (mem [.cells (cellsM m) 0]) Q) _ _ (fun hE => ?_) (fun k hk hn hB => ?_) hE hB
  · refine LoopG_of (T := tab16) mixedP noGoP 4000 (by kernel_rfl) fun J => ?_
    rw [t16_2]
    exact bif_f ltF hE
  · refine LoopG_of (T := tab16) mixedP noGoP 4000 (by kernel_rfl) fun J => ?_
    rw [t16_2]
    refine bif_t (ltT hk) (bif_t (inb hk) ⟨_, getK _ hk, ?_⟩)
    rw [impP] at hB hn
    refine by_g hB fun h1 => ?_
    rw [h1, Bool.true_and] at hB hn
    exact by_lg (fun h => by rw [wrapS' hk hl]; exact hn h) hB

theorem lp17_8 (m : GModule) (hl : m.datas.length ≤ 1048576) (h : ∀ x ∈ m.datas, OkData x) (Q : Value → List ABlk → Prop) (hE : m.datas.all dataP = true → Q (.bool true) []) (hB : m.datas.all dataP = false → Q (.bool false) []) :
    LoopG Tryz.prog gs 0 (tab17.live 17 8) (its (bodyOf Tryz.f17) 8) ⟨17, slots 43 [(26, encL 3 encData m.datas), (27, i64 m.datas.length), (28, i64 (nI 0))], [], none⟩ (mem []) Q := by
  refine alls m.datas dataP (fun k => LoopG Tryz.prog gs 0 (tab17.live 17 8) (its (bodyOf Tryz.f17) 8) ⟨17, slots 43 [(26, encL 3 encData m.datas), (27, i64 m.datas.length), (28, i64 (nI k))], [], none⟩ (mem []) Q) _ _ (fun hE => ?_) (fun k hk hn hB => ?_) hE hB
  · refine LoopG_of (T := tab17) mixedP noGoP 4000 (by kernel_rfl) fun J => ?_
    rw [t17_8]
    exact bif_f ltF hE
  · refine LoopG_of (T := tab17) mixedP noGoP 4000 (by kernel_rfl) fun J => ?_
    rw [t17_8]
    refine bif_t (ltT hk) (bif_t (inb hk) ⟨_, getK _ hk, ?_⟩)
    rw [dataP] at hB hn
    refine ⟨_, code_ok _ ((h _ (List.getElem_mem hk)).o), ?_⟩
    refine by_n hB fun h1 => ?_
    rw [h1, Bool.true_and] at hB hn
    exact by_lg (fun h => by rw [wrapS' hk hl]; exact hn h) hB

theorem lp17_2 (m : GModule) (hl : m.elems.length ≤ 1048576) (h : ∀ x ∈ m.elems, OkElem x) (Q : Value → List ABlk → Prop) (hE : m.elems.all elemP = true → LoopG Tryz.prog gs 0 (tab17.live 17 8) (its (bodyOf Tryz.f17) 8) ⟨17, slots 43 [(26, encL 3 encData m.datas), (27, i64 m.datas.length), (28, i64 (nI 0))], [], none⟩ (mem []) Q) (hB : m.elems.all elemP = false → Q (.bool false) []) :
    LoopG Tryz.prog gs 0 (tab17.live 17 2) (its (bodyOf Tryz.f17) 2) ⟨17, slots 43 [(1, ptrV 0), (8, encL 3 encElem m.elems), (9, i64 m.elems.length), (10, i64 (nI 0))], [], none⟩ (mem [.cells (cellsM m) 0]) Q := by
  refine alls m.elems elemP (fun k => LoopG Tryz.prog gs 0 (tab17.live 17 2) (its (bodyOf Tryz.f17) 2) ⟨17, slots 43 [(1, ptrV 0), (8, encL 3 encElem m.elems), (9, i64 m.elems.length), (10, i64 (nI k))], [], none⟩ (mem [.cells (cellsM m) 0]) Q) _ _ (fun hE => ?_) (fun k hk hn hB => ?_) hE hB
  · refine LoopG_of (T := tab17) mixedP noGoP 4000 (by kernel_rfl) fun J => ?_
    rw [t17_2]
    exact bif_f ltF hE
  · refine LoopG_of (T := tab17) mixedP noGoP 4000 (by kernel_rfl) fun J => ?_
    rw [t17_2]
    refine bif_t (ltT hk) (bif_t (inb hk) ⟨_, getK _ hk, ?_⟩)
    rw [elemP] at hB hn
    refine ⟨_, code_ok _ ((h _ (List.getElem_mem hk)).o), ?_⟩
    refine by_n hB fun h1 => ?_
    rw [h1, Bool.true_and] at hB hn
    exact by_lg (fun h => by rw [wrapS' hk hl]; exact hn h) hB

theorem names_ok (m : GModule) (h : OkM m) : K1 Tryz.prog gs 16 [encM m] (.bool (namesB m)) := by
  refine K1_of (T := tab16) (c := bodyOf Tryz.f16) mixedP noGoP Tryz.func16 (by kernel_rfl) 4000 ?_
  rw [show ([encM m] : List Value).length = 1 from rfl, t16, namesB]
  refine lp16_2 m h.imports _ (fun e1 => ?_) (fun e => qk _ _ (by rw [e]; rfl))
  exact lp16_8 m h.exports _ (fun e2 => qk _ _ (by rw [e1, e2]; rfl)) (fun e => qk _ _ (by rw [e]; simp))

theorem segs_ok (m : GModule) (h : OkM m) : K1 Tryz.prog gs 17 [encM m] (.bool (segsB m)) := by
  refine K1_of (T := tab17) (c := bodyOf Tryz.f17) mixedP noGoP Tryz.func17 (by kernel_rfl) 4000 ?_
  rw [show ([encM m] : List Value).length = 1 from rfl, t17, segsB]
  refine lp17_2 m h.elems.1 h.elems.2 _ (fun e1 => ?_) (fun e => qk _ _ (by rw [e]; rfl))
  exact lp17_8 m h.datas.1 h.datas.2 _ (fun e2 => qk _ _ (by rw [e1, e2]; rfl)) (fun e => qk _ _ (by rw [e]; simp))


theorem lp7_16 (m : GModule) (h : OkM m) (Q : Value → List ABlk → Prop) (hE : m.globals.all cellP = true → ((namesB m && segsB m) = true → Q (.bool true) []) ∧ ((namesB m && segsB m) = false → Q (.bool false) [])) (hB : m.globals.all cellP = false → Q (.bool false) []) :
    LoopG Tryz.prog gs 0 (tab7.live 7 16) (its (bodyOf Tryz.f7) 16) ⟨7, slots 115 [(1, ptrV 0), (98, encL 3 encCell m.globals), (99, i64 m.globals.length), (100, i64 (nI 0))], [], none⟩ (mem [.cells (cellsM m) 0]) Q := by
  refine alls m.globals cellP (fun k => LoopG Tryz.prog gs 0 (tab7.live 7 16) (its (bodyOf Tryz.f7) 16) ⟨7, slots 115 [(1, ptrV 0), (98, encL 3 encCell m.globals), (99, i64 m.globals.length), (100, i64 (nI k))], [], none⟩ (mem [.cells (cellsM m) 0]) Q) _ _ (fun hE => ?_) (fun k hk hn hB => ?_) hE hB
  · refine LoopG_of (T := tab7) mixedP noGoP 4000 (by kernel_rfl) fun J => ?_
    rw [t7_16]
    refine bif_f ltF ⟨_, names_ok m h, by_p hE.2 fun h1 => ⟨_, segs_ok m h, ?_⟩⟩
    rw [h1, Bool.true_and] at hE
    cases e : segsB m with
    | true => exact hE.1 e
    | false => exact hE.2 e
  · refine LoopG_of (T := tab7) mixedP noGoP 4000 (by kernel_rfl) fun J => ?_
    rw [t7_16]
    refine bif_t (ltT hk) (bif_t (inb hk) ⟨_, getK _ hk, ?_⟩)
    rw [cellP] at hB hn
    refine ⟨_, code_ok _ (h.globals.2 _ (List.getElem_mem hk)), ?_⟩
    exact by_l (fun hh => by rw [wrapS' hk h.globals.1]; exact hn hh) hB

theorem lp7_10 (m : GModule) (hl : m.funcs.length ≤ 1048576) (h : ∀ x ∈ m.funcs, OkFn x) (Q : Value → List ABlk → Prop) (hE : m.funcs.all fnP = true → LoopG Tryz.prog gs 0 (tab7.live 7 16) (its (bodyOf Tryz.f7) 16) ⟨7, slots 115 [(1, ptrV 0), (98, encL 3 encCell m.globals), (99, i64 m.globals.length), (100, i64 (nI 0))], [], none⟩ (mem [.cells (cellsM m) 0]) Q) (hB : m.funcs.all fnP = false → Q (.bool false) []) :
    LoopG Tryz.prog gs 0 (tab7.live 7 10) (its (bodyOf Tryz.f7) 10) ⟨7, slots 115 [(1, ptrV 0), (80, encL 3 encFn m.funcs), (81, i64 m.funcs.length), (82, i64 (nI 0))], [], none⟩ (mem [.cells (cellsM m) 0]) Q := by
  refine alls m.funcs fnP (fun k => LoopG Tryz.prog gs 0 (tab7.live 7 10) (its (bodyOf Tryz.f7) 10) ⟨7, slots 115 [(1, ptrV 0), (80, encL 3 encFn m.funcs), (81, i64 m.funcs.length), (82, i64 (nI k))], [], none⟩ (mem [.cells (cellsM m) 0]) Q) _ _ (fun hE => ?_) (fun k hk hn hB => ?_) hE hB
  · refine LoopG_of (T := tab7) mixedP noGoP 4000 (by kernel_rfl) fun J => ?_
    rw [t7_10]
    exact bif_f ltF hE
  · refine LoopG_of (T := tab7) mixedP noGoP 4000 (by kernel_rfl) fun J => ?_
    rw [t7_10]
    refine bif_t (ltT hk) (bif_t (inb hk) ⟨_, getK _ hk, ?_⟩)
    rw [fnP] at hB hn
    refine by_g hB fun h1 => ?_
    rw [h1, Bool.true_and] at hB hn
    refine ⟨_, code_ok _ ((h _ (List.getElem_mem hk)).b), ?_⟩
    exact by_l (fun h => by rw [wrapS' hk hl]; exact hn h) hB

theorem lp7_4 (m : GModule) (hl : m.types.length ≤ 1048576) (Q : Value → List ABlk → Prop) (hE : m.types.all ftP = true → LoopG Tryz.prog gs 0 (tab7.live 7 10) (its (bodyOf Tryz.f7) 10) ⟨7, slots 115 [(1, ptrV 0), (80, encL 3 encFn m.funcs), (81, i64 m.funcs.length), (82, i64 (nI 0))], [], none⟩ (mem [.cells (cellsM m) 0]) Q) (hB : m.types.all ftP = false → Q (.bool false) []) :
    LoopG Tryz.prog gs 0 (tab7.live 7 4) (its (bodyOf Tryz.f7) 4) ⟨7, slots 115 [(1, ptrV 0), (62, encL 2 encFT m.types), (63, i64 m.types.length), (64, i64 (nI 0))], [], none⟩ (mem [.cells (cellsM m) 0]) Q := by
  refine alls m.types ftP (fun k => LoopG Tryz.prog gs 0 (tab7.live 7 4) (its (bodyOf Tryz.f7) 4) ⟨7, slots 115 [(1, ptrV 0), (62, encL 2 encFT m.types), (63, i64 m.types.length), (64, i64 (nI k))], [], none⟩ (mem [.cells (cellsM m) 0]) Q) _ _ (fun hE => ?_) (fun k hk hn hB => ?_) hE hB
  · refine LoopG_of (T := tab7) mixedP noGoP 4000 (by kernel_rfl) fun J => ?_
    rw [t7_4]
    exact bif_f ltF hE
  · refine LoopG_of (T := tab7) mixedP noGoP 4000 (by kernel_rfl) fun J => ?_
    rw [t7_4]
    refine bif_t (ltT hk) (bif_t (inb hk) ⟨_, getK _ hk, ?_⟩)
    rw [ftP] at hB hn
    refine by_g hB fun h1 => ?_
    rw [h1, Bool.true_and] at hB hn
    exact by_lg (fun h => by rw [wrapS' hk hl]; exact hn h) hB

/-- what Few answers -/
theorem few_ok (m : GModule) (h : OkM m) : K1 Tryz.prog gs 7 [encM m] (.bool (fewB m)) := by
  refine K1_of (T := tab7) (c := bodyOf Tryz.f7) mixedP noGoP Tryz.func7 (by kernel_rfl) 4000 ?_
  rw [show ([encM m] : List Value).length = 1 from rfl, t7, fewB]
  refine by_g (qk _ _ ∘ Eq.symm) fun h1 => ?_
  rw [h1, Bool.true_and]
  refine by_g (qk _ _ ∘ Eq.symm) fun h1 => ?_
  rw [h1, Bool.true_and]
  refine by_g (qk _ _ ∘ Eq.symm) fun h1 => ?_
  rw [h1, Bool.true_and]
  refine by_g (qk _ _ ∘ Eq.symm) fun h1 => ?_
  rw [h1, Bool.true_and]
  refine by_g (qk _ _ ∘ Eq.symm) fun h1 => ?_
  rw [h1, Bool.true_and]
  refine by_g (qk _ _ ∘ Eq.symm) fun h1 => ?_
  rw [h1, Bool.true_and]
  refine by_g (qk _ _ ∘ Eq.symm) fun h1 => ?_
  rw [h1, Bool.true_and]
  refine by_g (qk _ _ ∘ Eq.symm) fun h1 => ?_
  rw [h1, Bool.true_and]
  refine by_g (qk _ _ ∘ Eq.symm) fun h1 => ?_
  rw [h1, Bool.true_and]
  refine lp7_4 m h.types.1 _ (fun e1 => ?_) (fun e => qk _ _ (by rw [e]; rfl))
  rw [e1, Bool.true_and]
  refine lp7_10 m h.funcs.1 h.funcs.2 _ (fun e1 => ?_) (fun e => qk _ _ (by rw [e]; rfl))
  rw [e1, Bool.true_and]
  refine lp7_16 m h _ (fun e1 => ?_) (fun e => qk _ _ (by rw [e]; rfl))
  rw [e1, Bool.true_and]
  exact ⟨fun e => qk _ _ e.symm, fun e => qk _ _ e.symm⟩
end Go.Proofs.YtmcmaklilfgdiaaGreat
