/- Modules as the document has them: the same. -/
import Derived.Test.YtmcmaklilfgdiaaGreatTe
import Derived.Test.YtmcmaklilfgdiaaGreatCe
namespace Go.Proofs.YtmcmaklilfgdiaaGreat
open Go Go.RowKit Ev

/-- a list copied one by one -/
theorem copies {α : Type} (l : List α) (L : List α → Nat → Prop) (End : Prop) (h1 : End → L l l.length)
    (h2 : ∀ k (hk : k < l.length) (pre : List α), pre.length = k → L (pre ++ [l[k]]) (k + 1) → L pre k) (hE : End) : L [] 0 := by
  have main : ∀ n k, n + k = l.length → L (l.take k) k := by
    intro n
    induction n with
    | zero =>
      intro k hk
      rw [show k = l.length by omega, List.take_length]
      exact h1 hE
    | succ n ih =>
      intro k hk
      have hl : k < l.length := by omega
      refine h2 k hl _ (by simp; omega) ?_
      have := ih (k + 1) (by omega)
      rw [List.take_succ_eq_append_getElem hl] at this
      exact this
  exact main l.length 0 (by omega)

theorem lp26_3 (l : List GLimits) (hl : l.length ≤ 1048576) (Q : Value → List ABlk → Prop) (hE : Q (encL 3 encLim l) []) :
    LoopG Tryz.prog gs 0 (tab26.live 26 3) (its (bodyOf Tryz.f26) 3) ⟨26, slots 18 [(3, ownV 0), (6, encL 3 encLim l), (7, i64 l.length), (8, i64 (nI 0))], [], none⟩ (mem [.lst (([] : List GLimits)).length ((([] : List GLimits)).map encLim) 3]) Q := by
  refine copies l (fun o k => LoopG Tryz.prog gs 0 (tab26.live 26 3) (its (bodyOf Tryz.f26) 3) ⟨26, slots 18 [(3, ownV 0), (6, encL 3 encLim l), (7, i64 l.length), (8, i64 (nI k))], [], none⟩ (mem [.lst (o).length ((o).map encLim) 3]) Q) _ (fun hE => ?_) (fun k hk pre hp ih => ?_) hE
  · refine LoopG_of (T := tab26) mixedP noGoP 4000 (by kernel_rfl) fun J => ?_
    rw [t26_3]
    exact bif_f ltF hE
  · refine LoopG_of (T := tab26) mixedP noGoP 4000 (by kernel_rfl) fun J => ?_
    rw [t26_3]
    refine bif_t (ltT hk) (bif_t (inb hk) ⟨_, getK _ hk, ?_⟩)
    refine bif_t (by simp only [Nat.ble_eq]; omega) ?_
    rw [wrapS' hk hl]
    simp only [List.length_append, List.length_cons, List.length_nil, Nat.zero_add, List.map_append, List.map_cons, List.map_nil] at ih
    exact ih

theorem lim_ok (l : List GLimits) (hl : l.length ≤ 1048576) : K1 Tryz.prog gs 26 [encL 3 encLim l] (encL 3 encLim l) := by
  refine K1_of (T := tab26) (c := bodyOf Tryz.f26) mixedP noGoP Tryz.func26 (by kernel_rfl) 4000 ?_
  rw [show ([encL 3 encLim l] : List Value).length = 1 from rfl, t26]
  exact lp26_3 l hl _ ⟨rfl, rfl⟩

theorem lp10_33 (m : GModule) (hl : m.datas.length ≤ 1048576) (h : ∀ x ∈ m.datas, OkData x) (Q : Value → List ABlk → Prop) (hE : Q (encM m) []) :
    LoopG Tryz.prog gs 0 (tab10.live 10 33) (its (bodyOf Tryz.f10) 33) ⟨10, slots 174 [(2, ptrV 0), (3, ptrV 1), (153, encL 3 encData m.datas), (154, i64 m.datas.length), (155, i64 (nI 0))], [], none⟩ (mem [.cells zerosM 0, .cells (grownM m (ownV 2) (ownV 3) (ownV 4) (ownV 5) (ownV 6) (ownV 7) (ownV 8)) 0, .lst m.types.length (m.types.map encFT) 2, .lst m.imports.length (m.imports.map encImp) 9, .lst m.funcs.length (m.funcs.map encFn) 3, .lst m.globals.length (m.globals.map encCell) 3, .lst m.exports.length (m.exports.map encExp) 3, .lst m.elems.length (m.elems.map encElem) 3, .lst (([] : List GData)).length ((([] : List GData)).map encData) 3]) Q := by
  refine copies m.datas (fun o k => LoopG Tryz.prog gs 0 (tab10.live 10 33) (its (bodyOf Tryz.f10) 33) ⟨10, slots 174 [(2, ptrV 0), (3, ptrV 1), (153, encL 3 encData m.datas), (154, i64 m.datas.length), (155, i64 (nI k))], [], none⟩ (mem [.cells zerosM 0, .cells (grownM m (ownV 2) (ownV 3) (ownV 4) (ownV 5) (ownV 6) (ownV 7) (ownV 8)) 0, .lst m.types.length (m.types.map encFT) 2, .lst m.imports.length (m.imports.map encImp) 9, .lst m.funcs.length (m.funcs.map encFn) 3, .lst m.globals.length (m.globals.map encCell) 3, .lst m.exports.length (m.exports.map encExp) 3, .lst m.elems.length (m.elems.map encElem) 3, .lst (o).length ((o).map encData) 3]) Q) _ (fun hE => ?_) (fun k hk pre hp ih => ?_) hE
  · refine LoopG_of (T := tab10) mixedP noGoP 4000 (by kernel_rfl) fun J => ?_
    rw [t10_33]
    exact bif_f ltF hE
  · refine LoopG_of (T := tab10) mixedP noGoP 4000 (by kernel_rfl) fun J => ?_
    rw [t10_33]
    refine bif_t (ltT hk) (bif_t (inb hk) ⟨_, getK _ hk, ?_⟩)
    refine ⟨_, plain_ok _ ((h _ (List.getElem_mem hk)).o), ?_⟩
    refine bif_t (by simp only [Nat.ble_eq]; omega) ?_
    rw [wrapS' hk hl]
    simp only [List.length_append, List.length_cons, List.length_nil, Nat.zero_add, List.map_append, List.map_cons, List.map_nil] at ih
    exact ih

theorem lp10_28 (m : GModule) (hl : m.elems.length ≤ 1048576) (h : ∀ x ∈ m.elems, OkElem x) (Q : Value → List ABlk → Prop) (hE : LoopG Tryz.prog gs 0 (tab10.live 10 33) (its (bodyOf Tryz.f10) 33) ⟨10, slots 174 [(2, ptrV 0), (3, ptrV 1), (153, encL 3 encData m.datas), (154, i64 m.datas.length), (155, i64 (nI 0))], [], none⟩ (mem [.cells zerosM 0, .cells (grownM m (ownV 2) (ownV 3) (ownV 4) (ownV 5) (ownV 6) (ownV 7) (ownV 8)) 0, .lst m.types.length (m.types.map encFT) 2, .lst m.imports.length (m.imports.map encImp) 9, .lst m.funcs.length (m.funcs.map encFn) 3, .lst m.globals.length (m.globals.map encCell) 3, .lst m.exports.length (m.exports.map encExp) 3, .lst m.elems.length (m.elems.map encElem) 3, .lst (([] : List GData)).length ((([] : List GData)).map encData) 3]) Q) :
    LoopG Tryz.prog gs 0 (tab10.live 10 28) (its (bodyOf Tryz.f10) 28) ⟨10, slots 174 [(1, ptrV 0), (2, ptrV 1), (3, ptrV 2), (132, encL 3 encElem m.elems), (133, i64 m.elems.length), (134, i64 (nI 0))], [], none⟩ (mem [.cells (cellsM m) 0, .cells zerosM 0, .cells (grownM m (ownV 3) (ownV 4) (ownV 5) (ownV 6) (ownV 7) (ownV 8) nilV) 0, .lst m.types.length (m.types.map encFT) 2, .lst m.imports.length (m.imports.map encImp) 9, .lst m.funcs.length (m.funcs.map encFn) 3, .lst m.globals.length (m.globals.map encCell) 3, .lst m.exports.length (m.exports.map encExp) 3, .lst (([] : List GElem)).length ((([] : List GElem)).map encElem) 3]) Q := by
  refine copies m.elems (fun o k => LoopG Tryz.prog gs 0 (tab10.live 10 28) (its (bodyOf Tryz.f10) 28) ⟨10, slots 174 [(1, ptrV 0), (2, ptrV 1), (3, ptrV 2), (132, encL 3 encElem m.elems), (133, i64 m.elems.length), (134, i64 (nI k))], [], none⟩ (mem [.cells (cellsM m) 0, .cells zerosM 0, .cells (grownM m (ownV 3) (ownV 4) (ownV 5) (ownV 6) (ownV 7) (ownV 8) nilV) 0, .lst m.types.length (m.types.map encFT) 2, .lst m.imports.length (m.imports.map encImp) 9, .lst m.funcs.length (m.funcs.map encFn) 3, .lst m.globals.length (m.globals.map encCell) 3, .lst m.exports.length (m.exports.map encExp) 3, .lst (o).length ((o).map encElem) 3]) Q) _ (fun hE => ?_) (fun k hk pre hp ih => ?_) hE
  · refine LoopG_of (T := tab10) mixedP noGoP 4000 (by kernel_rfl) fun J => ?_
    rw [t10_28]
    exact bif_f ltF hE
  · refine LoopG_of (T := tab10) mixedP noGoP 4000 (by kernel_rfl) fun J => ?_
    rw [t10_28]
    refine bif_t (ltT hk) (bif_t (inb hk) ⟨_, getK _ hk, ?_⟩)
    refine ⟨_, plain_ok _ ((h _ (List.getElem_mem hk)).o), ?_⟩
    refine bif_t (by simp only [Nat.ble_eq]; omega) ?_
    rw [wrapS' hk hl]
    simp only [List.length_append, List.length_cons, List.length_nil, Nat.zero_add, List.map_append, List.map_cons, List.map_nil] at ih
    exact ih

theorem lp10_23 (m : GModule) (hl : m.globals.length ≤ 1048576) (h : ∀ x ∈ m.globals, wIs x.init ≤ 1048576) (Q : Value → List ABlk → Prop) (hE : LoopG Tryz.prog gs 0 (tab10.live 10 28) (its (bodyOf Tryz.f10) 28) ⟨10, slots 174 [(1, ptrV 0), (2, ptrV 1), (3, ptrV 2), (132, encL 3 encElem m.elems), (133, i64 m.elems.length), (134, i64 (nI 0))], [], none⟩ (mem [.cells (cellsM m) 0, .cells zerosM 0, .cells (grownM m (ownV 3) (ownV 4) (ownV 5) (ownV 6) (ownV 7) (ownV 8) nilV) 0, .lst m.types.length (m.types.map encFT) 2, .lst m.imports.length (m.imports.map encImp) 9, .lst m.funcs.length (m.funcs.map encFn) 3, .lst m.globals.length (m.globals.map encCell) 3, .lst m.exports.length (m.exports.map encExp) 3, .lst (([] : List GElem)).length ((([] : List GElem)).map encElem) 3]) Q) :
    LoopG Tryz.prog gs 0 (tab10.live 10 23) (its (bodyOf Tryz.f10) 23) ⟨10, slots 174 [(1, ptrV 0), (2, ptrV 1), (3, ptrV 2), (109, encL 3 encCell m.globals), (110, i64 m.globals.length), (111, i64 (nI 0))], [], none⟩ (mem [.cells (cellsM m) 0, .cells zerosM 0, .cells (grownM m (ownV 3) (ownV 4) (ownV 5) (ownV 6) (ownV 7) nilV nilV) 0, .lst m.types.length (m.types.map encFT) 2, .lst m.imports.length (m.imports.map encImp) 9, .lst m.funcs.length (m.funcs.map encFn) 3, .lst (([] : List GCell)).length ((([] : List GCell)).map encCell) 3, .lst m.exports.length (m.exports.map encExp) 3]) Q := by
  refine copies m.globals (fun o k => LoopG Tryz.prog gs 0 (tab10.live 10 23) (its (bodyOf Tryz.f10) 23) ⟨10, slots 174 [(1, ptrV 0), (2, ptrV 1), (3, ptrV 2), (109, encL 3 encCell m.globals), (110, i64 m.globals.length), (111, i64 (nI k))], [], none⟩ (mem [.cells (cellsM m) 0, .cells zerosM 0, .cells (grownM m (ownV 3) (ownV 4) (ownV 5) (ownV 6) (ownV 7) nilV nilV) 0, .lst m.types.length (m.types.map encFT) 2, .lst m.imports.length (m.imports.map encImp) 9, .lst m.funcs.length (m.funcs.map encFn) 3, .lst (o).length ((o).map encCell) 3, .lst m.exports.length (m.exports.map encExp) 3]) Q) _ (fun hE => ?_) (fun k hk pre hp ih => ?_) hE
  · refine LoopG_of (T := tab10) mixedP noGoP 4000 (by kernel_rfl) fun J => ?_
    rw [t10_23]
    exact bif_f ltF hE
  · refine LoopG_of (T := tab10) mixedP noGoP 4000 (by kernel_rfl) fun J => ?_
    rw [t10_23]
    refine bif_t (ltT hk) (bif_t (inb hk) ⟨_, getK _ hk, ?_⟩)
    refine ⟨_, plain_ok _ (h _ (List.getElem_mem hk)), ?_⟩
    refine bif_t (by simp only [Nat.ble_eq]; omega) ?_
    rw [wrapS' hk hl]
    simp only [List.length_append, List.length_cons, List.length_nil, Nat.zero_add, List.map_append, List.map_cons, List.map_nil] at ih
    exact ih

theorem lp10_18 (m : GModule) (hl : m.funcs.length ≤ 1048576) (h : ∀ x ∈ m.funcs, OkFn x) (Q : Value → List ABlk → Prop) (hE : LoopG Tryz.prog gs 0 (tab10.live 10 23) (its (bodyOf Tryz.f10) 23) ⟨10, slots 174 [(1, ptrV 0), (2, ptrV 1), (3, ptrV 2), (109, encL 3 encCell m.globals), (110, i64 m.globals.length), (111, i64 (nI 0))], [], none⟩ (mem [.cells (cellsM m) 0, .cells zerosM 0, .cells (grownM m (ownV 3) (ownV 4) (ownV 5) (ownV 6) (ownV 7) nilV nilV) 0, .lst m.types.length (m.types.map encFT) 2, .lst m.imports.length (m.imports.map encImp) 9, .lst m.funcs.length (m.funcs.map encFn) 3, .lst (([] : List GCell)).length ((([] : List GCell)).map encCell) 3, .lst m.exports.length (m.exports.map encExp) 3]) Q) :
    LoopG Tryz.prog gs 0 (tab10.live 10 18) (its (bodyOf Tryz.f10) 18) ⟨10, slots 174 [(1, ptrV 0), (2, ptrV 1), (3, ptrV 2), (88, encL 3 encFn m.funcs), (89, i64 m.funcs.length), (90, i64 (nI 0))], [], none⟩ (mem [.cells (cellsM m) 0, .cells zerosM 0, .cells (grownM m (ownV 3) (ownV 4) (ownV 5) nilV (ownV 6) nilV nilV) 0, .lst m.types.length (m.types.map encFT) 2, .lst m.imports.length (m.imports.map encImp) 9, .lst (([] : List GFn)).length ((([] : List GFn)).map encFn) 3, .lst m.exports.length (m.exports.map encExp) 3]) Q := by
  refine copies m.funcs (fun o k => LoopG Tryz.prog gs 0 (tab10.live 10 18) (its (bodyOf Tryz.f10) 18) ⟨10, slots 174 [(1, ptrV 0), (2, ptrV 1), (3, ptrV 2), (88, encL 3 encFn m.funcs), (89, i64 m.funcs.length), (90, i64 (nI k))], [], none⟩ (mem [.cells (cellsM m) 0, .cells zerosM 0, .cells (grownM m (ownV 3) (ownV 4) (ownV 5) nilV (ownV 6) nilV nilV) 0, .lst m.types.length (m.types.map encFT) 2, .lst m.imports.length (m.imports.map encImp) 9, .lst (o).length ((o).map encFn) 3, .lst m.exports.length (m.exports.map encExp) 3]) Q) _ (fun hE => ?_) (fun k hk pre hp ih => ?_) hE
  · refine LoopG_of (T := tab10) mixedP noGoP 4000 (by kernel_rfl) fun J => ?_
    rw [t10_18]
    exact bif_f ltF hE
  · refine LoopG_of (T := tab10) mixedP noGoP 4000 (by kernel_rfl) fun J => ?_
    rw [t10_18]
    refine bif_t (ltT hk) (bif_t (inb hk) ⟨_, getK _ hk, ?_⟩)
    refine ⟨_, plain_ok _ ((h _ (List.getElem_mem hk)).b), ?_⟩
    refine bif_t (by simp only [Nat.ble_eq]; omega) ?_
    rw [wrapS' hk hl]
    simp only [List.length_append, List.length_cons, List.length_nil, Nat.zero_add, List.map_append, List.map_cons, List.map_nil] at ih
    exact ih

theorem lp10_13 (m : GModule) (hl : m.exports.length ≤ 1048576) (Q : Value → List ABlk → Prop) (hE : LoopG Tryz.prog gs 0 (tab10.live 10 18) (its (bodyOf Tryz.f10) 18) ⟨10, slots 174 [(1, ptrV 0), (2, ptrV 1), (3, ptrV 2), (88, encL 3 encFn m.funcs), (89, i64 m.funcs.length), (90, i64 (nI 0))], [], none⟩ (mem [.cells (cellsM m) 0, .cells zerosM 0, .cells (grownM m (ownV 3) (ownV 4) (ownV 5) nilV (ownV 6) nilV nilV) 0, .lst m.types.length (m.types.map encFT) 2, .lst m.imports.length (m.imports.map encImp) 9, .lst (([] : List GFn)).length ((([] : List GFn)).map encFn) 3, .lst m.exports.length (m.exports.map encExp) 3]) Q) :
    LoopG Tryz.prog gs 0 (tab10.live 10 13) (its (bodyOf Tryz.f10) 13) ⟨10, slots 174 [(1, ptrV 0), (2, ptrV 1), (3, ptrV 2), (74, encL 3 encExp m.exports), (75, i64 m.exports.length), (76, i64 (nI 0))], [], none⟩ (mem [.cells (cellsM m) 0, .cells zerosM 0, .cells (grownM m (ownV 3) (ownV 4) nilV nilV (ownV 5) nilV nilV) 0, .lst m.types.length (m.types.map encFT) 2, .lst m.imports.length (m.imports.map encImp) 9, .lst (([] : List GExport)).length ((([] : List GExport)).map encExp) 3]) Q := by
  refine copies m.exports (fun o k => LoopG Tryz.prog gs 0 (tab10.live 10 13) (its (bodyOf Tryz.f10) 13) ⟨10, slots 174 [(1, ptrV 0), (2, ptrV 1), (3, ptrV 2), (74, encL 3 encExp m.exports), (75, i64 m.exports.length), (76, i64 (nI k))], [], none⟩ (mem [.cells (cellsM m) 0, .cells zerosM 0, .cells (grownM m (ownV 3) (ownV 4) nilV nilV (ownV 5) nilV nilV) 0, .lst m.types.length (m.types.map encFT) 2, .lst m.imports.length (m.imports.map encImp) 9, .lst (o).length ((o).map encExp) 3]) Q) _ (fun hE => ?_) (fun k hk pre hp ih => ?_) hE
  · refine LoopG_of (T := tab10) mixedP noGoP 4000 (by kernel_rfl) fun J => ?_
    rw [t10_13]
    exact bif_f ltF hE
  · refine LoopG_of (T := tab10) mixedP noGoP 4000 (by kernel_rfl) fun J => ?_
    rw [t10_13]
    refine bif_t (ltT hk) (bif_t (inb hk) ⟨_, getK _ hk, ?_⟩)
    refine bif_t (by simp only [Nat.ble_eq]; omega) ?_
    rw [wrapS' hk hl]
    simp only [List.length_append, List.length_cons, List.length_nil, Nat.zero_add, List.map_append, List.map_cons, List.map_nil] at ih
    exact ih

theorem lp10_8 (m : GModule) (hl : m.imports.length ≤ 1048576) (Q : Value → List ABlk → Prop) (hE : LoopG Tryz.prog gs 0 (tab10.live 10 13) (its (bodyOf Tryz.f10) 13) ⟨10, slots 174 [(1, ptrV 0), (2, ptrV 1), (3, ptrV 2), (74, encL 3 encExp m.exports), (75, i64 m.exports.length), (76, i64 (nI 0))], [], none⟩ (mem [.cells (cellsM m) 0, .cells zerosM 0, .cells (grownM m (ownV 3) (ownV 4) nilV nilV (ownV 5) nilV nilV) 0, .lst m.types.length (m.types.map encFT) 2, .lst m.imports.length (m.imports.map encImp) 9, .lst (([] : List GExport)).length ((([] : List GExport)).map encExp) 3]) Q) :
    LoopG Tryz.prog gs 0 (tab10.live 10 8) (its (bodyOf Tryz.f10) 8) ⟨10, slots 174 [(1, ptrV 0), (2, ptrV 1), (3, ptrV 2), (44, encL 9 encImp m.imports), (45, i64 m.imports.length), (46, i64 (nI 0))], [], none⟩ (mem [.cells (cellsM m) 0, .cells zerosM 0, .cells (grownM m (ownV 3) (ownV 4) nilV nilV nilV nilV nilV) 0, .lst m.types.length (m.types.map encFT) 2, .lst (([] : List GImport)).length ((([] : List GImport)).map encImp) 9]) Q := by
  refine copies m.imports (fun o k => LoopG Tryz.prog gs 0 (tab10.live 10 8) (its (bodyOf Tryz.f10) 8) ⟨10, slots 174 [(1, ptrV 0), (2, ptrV 1), (3, ptrV 2), (44, encL 9 encImp m.imports), (45, i64 m.imports.length), (46, i64 (nI k))], [], none⟩ (mem [.cells (cellsM m) 0, .cells zerosM 0, .cells (grownM m (ownV 3) (ownV 4) nilV nilV nilV nilV nilV) 0, .lst m.types.length (m.types.map encFT) 2, .lst (o).length ((o).map encImp) 9]) Q) _ (fun hE => ?_) (fun k hk pre hp ih => ?_) hE
  · refine LoopG_of (T := tab10) mixedP noGoP 4000 (by kernel_rfl) fun J => ?_
    rw [t10_8]
    exact bif_f ltF hE
  · refine LoopG_of (T := tab10) mixedP noGoP 4000 (by kernel_rfl) fun J => ?_
    rw [t10_8]
    refine bif_t (ltT hk) (bif_t (inb hk) ⟨_, getK _ hk, ?_⟩)
    refine bif_t (by simp only [Nat.ble_eq]; omega) ?_
    rw [wrapS' hk hl]
    simp only [List.length_append, List.length_cons, List.length_nil, Nat.zero_add, List.map_append, List.map_cons, List.map_nil] at ih
    exact ih

theorem lp10_3 (m : GModule) (hl : m.types.length ≤ 1048576) (Q : Value → List ABlk → Prop) (hE : LoopG Tryz.prog gs 0 (tab10.live 10 8) (its (bodyOf Tryz.f10) 8) ⟨10, slots 174 [(1, ptrV 0), (2, ptrV 1), (3, ptrV 2), (44, encL 9 encImp m.imports), (45, i64 m.imports.length), (46, i64 (nI 0))], [], none⟩ (mem [.cells (cellsM m) 0, .cells zerosM 0, .cells (grownM m (ownV 3) (ownV 4) nilV nilV nilV nilV nilV) 0, .lst m.types.length (m.types.map encFT) 2, .lst (([] : List GImport)).length ((([] : List GImport)).map encImp) 9]) Q) :
    LoopG Tryz.prog gs 0 (tab10.live 10 3) (its (bodyOf Tryz.f10) 3) ⟨10, slots 174 [(1, ptrV 0), (2, ptrV 1), (3, ptrV 2), (30, encL 2 encFT m.types), (31, i64 m.types.length), (32, i64 (nI 0))], [], none⟩ (mem [.cells (cellsM m) 0, .cells zerosM 0, .cells (grownM m (ownV 3) nilV nilV nilV nilV nilV nilV) 0, .lst (([] : List GFuncType)).length ((([] : List GFuncType)).map encFT) 2]) Q := by
  refine copies m.types (fun o k => LoopG Tryz.prog gs 0 (tab10.live 10 3) (its (bodyOf Tryz.f10) 3) ⟨10, slots 174 [(1, ptrV 0), (2, ptrV 1), (3, ptrV 2), (30, encL 2 encFT m.types), (31, i64 m.types.length), (32, i64 (nI k))], [], none⟩ (mem [.cells (cellsM m) 0, .cells zerosM 0, .cells (grownM m (ownV 3) nilV nilV nilV nilV nilV nilV) 0, .lst (o).length ((o).map encFT) 2]) Q) _ (fun hE => ?_) (fun k hk pre hp ih => ?_) hE
  · refine LoopG_of (T := tab10) mixedP noGoP 4000 (by kernel_rfl) fun J => ?_
    rw [t10_3]
    exact bif_f ltF hE
  · refine LoopG_of (T := tab10) mixedP noGoP 4000 (by kernel_rfl) fun J => ?_
    rw [t10_3]
    refine bif_t (ltT hk) (bif_t (inb hk) ⟨_, getK _ hk, ?_⟩)
    refine bif_t (by simp only [Nat.ble_eq]; omega) ?_
    rw [wrapS' hk hl]
    simp only [List.length_append, List.length_cons, List.length_nil, Nat.zero_add, List.map_append, List.map_cons, List.map_nil] at ih
    exact ih

/-- a module as the document has it: the same -/
theorem plainM_ok (m : GModule) (h : OkM m) : K1 Tryz.prog gs 10 [encM m] (encM m) := by
  refine K1_of (T := tab10) (c := bodyOf Tryz.f10) mixedP noGoP Tryz.func10 (by kernel_rfl) 4000 ?_
  rw [show ([encM m] : List Value).length = 1 from rfl, t10]
  refine ⟨_, lim_ok _ h.tables, _, lim_ok _ h.memories, ?_⟩
  refine lp10_3 m h.types.1 _ ?_
  refine lp10_8 m h.imports _ ?_
  refine lp10_13 m h.exports _ ?_
  refine lp10_18 m h.funcs.1 h.funcs.2 _ ?_
  refine lp10_23 m h.globals.1 h.globals.2 _ ?_
  refine lp10_28 m h.elems.1 h.elems.2 _ ?_
  exact lp10_33 m h.datas.1 h.datas.2 _ ⟨rfl, rfl⟩
end Go.Proofs.YtmcmaklilfgdiaaGreat
