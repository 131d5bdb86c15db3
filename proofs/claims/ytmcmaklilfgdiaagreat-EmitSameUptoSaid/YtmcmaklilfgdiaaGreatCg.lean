/- The document's comparisons. -/
import Derived.Test.YtmcmaklilfgdiaaGreatCf
namespace Go.Proofs.YtmcmaklilfgdiaaGreat
open Go Go.RowKit Ev

theorem lp42_14 (a b : GModule) (hl : a.globals.length ≤ 1048576) (hab : a.globals.length = b.globals.length) (oa : ∀ x ∈ a.globals, wIs x.init ≤ 1048576) (Q : Value → List ABlk → Prop)
    (hE : eqB a.globals b.globals = true → Q (.bool true) []) (hB : eqB a.globals b.globals = false → Q (.bool false) []) :
    LoopG Tryz.prog gs 0 (tab42.live 42 14) (its (bodyOf Tryz.f42) 14) ⟨42, slots 120 [(2, ptrV 0), (3, ptrV 1), (7, i64 (nI 0))], [], none⟩ (mem [.cells (cellsM a) 0, .cells (cellsM b) 0]) Q := by
  refine pairs a.globals b.globals hab (fun k => LoopG Tryz.prog gs 0 (tab42.live 42 14) (its (bodyOf Tryz.f42) 14) ⟨42, slots 120 [(2, ptrV 0), (3, ptrV 1), (7, i64 (nI k))], [], none⟩ (mem [.cells (cellsM a) 0, .cells (cellsM b) 0]) Q) _ _ (fun hE => ?_) (fun k ha hb hn hB => ?_) hE hB
  · refine LoopG_of (T := tab42) mixedP noGoP 4000 (by kernel_rfl) fun J => ?_
    rw [t42_14]
    exact bif_f ltF hE
  · refine LoopG_of (T := tab42) mixedP noGoP 4000 (by kernel_rfl) fun J => ?_
    rw [t42_14]
    refine bif_t (ltT ha) ?_
    rw [cellB2] at hB hn
    refine bif_t (inb ha) ⟨_, getK _ ha, ?_⟩
    refine bif_t (inb hb) ⟨_, getK _ hb, ?_⟩
    refine by_n hB fun h1 => ?_
    rw [h1, Bool.true_and] at hB hn
    refine bif_t (inb ha) ⟨_, getK _ ha, ?_⟩
    refine bif_t (inb hb) ⟨_, getK _ hb, ?_⟩
    refine by_n hB fun h1 => ?_
    rw [h1, Bool.true_and] at hB hn
    refine bif_t (inb ha) ⟨_, getK _ ha, ?_⟩
    refine bif_t (inb hb) ⟨_, getK _ hb, ?_⟩
    refine ⟨_, eq44 _ _ (oa _ (List.getElem_mem ha)), ?_⟩
    exact by_l (fun h => by rw [wrapS' ha hl]; exact hn h) hB

theorem lp42_9 (a b : GModule) (hl : a.exports.length ≤ 1048576) (hab : a.exports.length = b.exports.length) (Q : Value → List ABlk → Prop)
    (hE : eqB a.exports b.exports = true → LoopG Tryz.prog gs 0 (tab42.live 42 14) (its (bodyOf Tryz.f42) 14) ⟨42, slots 120 [(2, ptrV 0), (3, ptrV 1), (7, i64 (nI 0))], [], none⟩ (mem [.cells (cellsM a) 0, .cells (cellsM b) 0]) Q) (hB : eqB a.exports b.exports = false → Q (.bool false) []) :
    LoopG Tryz.prog gs 0 (tab42.live 42 9) (its (bodyOf Tryz.f42) 9) ⟨42, slots 120 [(2, ptrV 0), (3, ptrV 1), (6, i64 (nI 0))], [], none⟩ (mem [.cells (cellsM a) 0, .cells (cellsM b) 0]) Q := by
  refine pairs a.exports b.exports hab (fun k => LoopG Tryz.prog gs 0 (tab42.live 42 9) (its (bodyOf Tryz.f42) 9) ⟨42, slots 120 [(2, ptrV 0), (3, ptrV 1), (6, i64 (nI k))], [], none⟩ (mem [.cells (cellsM a) 0, .cells (cellsM b) 0]) Q) _ _ (fun hE => ?_) (fun k ha hb hn hB => ?_) hE hB
  · refine LoopG_of (T := tab42) mixedP noGoP 4000 (by kernel_rfl) fun J => ?_
    rw [t42_9]
    exact bif_f ltF hE
  · refine LoopG_of (T := tab42) mixedP noGoP 4000 (by kernel_rfl) fun J => ?_
    rw [t42_9]
    refine bif_t (ltT ha) ?_
    rw [← expB] at hB hn
    refine bif_t (inb ha) ⟨_, getK _ ha, ?_⟩
    refine bif_t (inb hb) ⟨_, getK _ hb, ?_⟩
    exact by_l (fun h => by rw [wrapS' ha hl]; exact hn h) hB

theorem lp42_4 (a b : GModule) (hl : a.imports.length ≤ 1048576) (hab : a.imports.length = b.imports.length) (Q : Value → List ABlk → Prop)
    (hE : eqB a.imports b.imports = true → LoopG Tryz.prog gs 0 (tab42.live 42 9) (its (bodyOf Tryz.f42) 9) ⟨42, slots 120 [(2, ptrV 0), (3, ptrV 1), (6, i64 (nI 0))], [], none⟩ (mem [.cells (cellsM a) 0, .cells (cellsM b) 0]) Q) (hB : eqB a.imports b.imports = false → Q (.bool false) []) :
    LoopG Tryz.prog gs 0 (tab42.live 42 4) (its (bodyOf Tryz.f42) 4) ⟨42, slots 120 [(2, ptrV 0), (3, ptrV 1), (5, i64 (nI 0))], [], none⟩ (mem [.cells (cellsM a) 0, .cells (cellsM b) 0]) Q := by
  refine pairs a.imports b.imports hab (fun k => LoopG Tryz.prog gs 0 (tab42.live 42 4) (its (bodyOf Tryz.f42) 4) ⟨42, slots 120 [(2, ptrV 0), (3, ptrV 1), (5, i64 (nI k))], [], none⟩ (mem [.cells (cellsM a) 0, .cells (cellsM b) 0]) Q) _ _ (fun hE => ?_) (fun k ha hb hn hB => ?_) hE hB
  · refine LoopG_of (T := tab42) mixedP noGoP 4000 (by kernel_rfl) fun J => ?_
    rw [t42_4]
    exact bif_f ltF hE
  · refine LoopG_of (T := tab42) mixedP noGoP 4000 (by kernel_rfl) fun J => ?_
    rw [t42_4]
    refine bif_t (ltT ha) ?_
    rw [← impB2] at hB hn
    refine bif_t (inb ha) ⟨_, getK _ ha, ?_⟩
    refine bif_t (inb hb) ⟨_, getK _ hb, ?_⟩
    exact by_l (fun h => by rw [wrapS' ha hl]; exact hn h) hB

theorem eq42 (a b : GModule) (h : OkM a) : K1 Tryz.prog gs 42 [encM a, encM b] (.bool (eqB a.imports b.imports && (eqB a.exports b.exports && eqB a.globals b.globals))) := by
  refine K1_of (T := tab42) (c := bodyOf Tryz.f42) mixedP noGoP Tryz.func42 (by kernel_rfl) 4000 ?_
  rw [show ([encM a, encM b] : List Value).length = 2 from rfl, t42]
  refine bif_c (fun h => qk _ _ (by rw [eqB_len h]; simp)) (fun h1 => ?_)
  refine bif_c (fun h => qk _ _ (by rw [eqB_len h]; simp)) (fun h2 => ?_)
  refine bif_c (fun h => qk _ _ (by rw [eqB_len h]; simp)) (fun h3 => ?_)
  refine lp42_4 a b h.imports (len_of h1) _ (fun e1 => ?_) (fun e => qk _ _ (by rw [e]; simp))
  refine lp42_9 a b h.exports (len_of h2) _ (fun e2 => ?_) (fun e => qk _ _ (by rw [e]; simp))
  exact lp42_14 a b h.globals.1 (len_of h3) h.globals.2 _ (fun e3 => qk _ _ (by rw [e1, e2, e3]; rfl)) (fun e => qk _ _ (by rw [e]; simp))

theorem lp12_14 (a b : GModule) (hl : a.datas.length ≤ 1048576) (hab : a.datas.length = b.datas.length) (oa : ∀ x ∈ a.datas, OkData x) (ob : ∀ x ∈ b.datas, OkData x) (Q : Value → List ABlk → Prop)
    (hE : eqB a.datas b.datas = true → Q (.bool true) []) (hB : eqB a.datas b.datas = false → Q (.bool false) []) :
    LoopG Tryz.prog gs 0 (tab12.live 12 14) (its (bodyOf Tryz.f12) 14) ⟨12, slots 235 [(2, ptrV 0), (3, ptrV 1), (7, i64 (nI 0))], [], none⟩ (mem [.cells (cellsM a) 0, .cells (cellsM b) 0]) Q := by
  refine pairs a.datas b.datas hab (fun k => LoopG Tryz.prog gs 0 (tab12.live 12 14) (its (bodyOf Tryz.f12) 14) ⟨12, slots 235 [(2, ptrV 0), (3, ptrV 1), (7, i64 (nI k))], [], none⟩ (mem [.cells (cellsM a) 0, .cells (cellsM b) 0]) Q) _ _ (fun hE => ?_) (fun k ha hb hn hB => ?_) hE hB
  · refine LoopG_of (T := tab12) mixedP noGoP 4000 (by kernel_rfl) fun J => ?_
    rw [t12_14]
    exact bif_f ltF hE
  · refine LoopG_of (T := tab12) mixedP noGoP 4000 (by kernel_rfl) fun J => ?_
    rw [t12_14]
    refine bif_t (ltT ha) ?_
    rw [dataB] at hB hn
    refine bif_t (inb ha) ⟨_, getK _ ha, ?_⟩
    refine bif_t (inb hb) ⟨_, getK _ hb, ?_⟩
    refine by_n hB fun h1 => ?_
    rw [h1, Bool.true_and] at hB hn
    refine bif_t (inb ha) ⟨_, getK _ ha, ?_⟩
    refine bif_t (inb hb) ⟨_, getK _ hb, ?_⟩
    refine ⟨_, eq44 _ _ (oa _ (List.getElem_mem ha)).o, ?_⟩
    refine by_n hB fun h1 => ?_
    rw [h1, Bool.true_and] at hB hn
    refine bif_t (inb ha) ⟨_, getK _ ha, ?_⟩
    refine ⟨_, bytesOf_u8 _, ?_⟩
    refine bif_t (inb hb) ⟨_, getK _ hb, ?_⟩
    refine ⟨_, bytesOf_u8 _, ?_⟩
    rw [okEq (oa _ (List.getElem_mem ha)).b (ob _ (List.getElem_mem hb)).b]
    exact by_l (fun h => by rw [wrapS' ha hl]; exact hn h) hB

theorem lp12_9 (a b : GModule) (hl : a.elems.length ≤ 1048576) (hab : a.elems.length = b.elems.length) (oa : ∀ x ∈ a.elems, OkElem x) (Q : Value → List ABlk → Prop)
    (hE : eqB a.elems b.elems = true → LoopG Tryz.prog gs 0 (tab12.live 12 14) (its (bodyOf Tryz.f12) 14) ⟨12, slots 235 [(2, ptrV 0), (3, ptrV 1), (7, i64 (nI 0))], [], none⟩ (mem [.cells (cellsM a) 0, .cells (cellsM b) 0]) Q) (hB : eqB a.elems b.elems = false → Q (.bool false) []) :
    LoopG Tryz.prog gs 0 (tab12.live 12 9) (its (bodyOf Tryz.f12) 9) ⟨12, slots 235 [(2, ptrV 0), (3, ptrV 1), (6, i64 (nI 0))], [], none⟩ (mem [.cells (cellsM a) 0, .cells (cellsM b) 0]) Q := by
  refine pairs a.elems b.elems hab (fun k => LoopG Tryz.prog gs 0 (tab12.live 12 9) (its (bodyOf Tryz.f12) 9) ⟨12, slots 235 [(2, ptrV 0), (3, ptrV 1), (6, i64 (nI k))], [], none⟩ (mem [.cells (cellsM a) 0, .cells (cellsM b) 0]) Q) _ _ (fun hE => ?_) (fun k ha hb hn hB => ?_) hE hB
  · refine LoopG_of (T := tab12) mixedP noGoP 4000 (by kernel_rfl) fun J => ?_
    rw [t12_9]
    exact bif_f ltF hE
  · refine LoopG_of (T := tab12) mixedP noGoP 4000 (by kernel_rfl) fun J => ?_
    rw [t12_9]
    refine bif_t (ltT ha) ?_
    rw [elemB] at hB hn
    refine bif_t (inb ha) ⟨_, getK _ ha, ?_⟩
    refine bif_t (inb hb) ⟨_, getK _ hb, ?_⟩
    refine by_n hB fun h1 => ?_
    rw [h1, Bool.true_and] at hB hn
    refine bif_t (inb ha) ⟨_, getK _ ha, ?_⟩
    refine bif_t (inb hb) ⟨_, getK _ hb, ?_⟩
    refine ⟨_, eq44 _ _ (oa _ (List.getElem_mem ha)).o, ?_⟩
    refine by_n hB fun h1 => ?_
    rw [h1, Bool.true_and] at hB hn
    refine bif_t (inb ha) ⟨_, getK _ ha, ?_⟩
    refine bif_t (inb hb) ⟨_, getK _ hb, ?_⟩
    refine ⟨_, eq45 _ _ (oa _ (List.getElem_mem ha)).f, ?_⟩
    exact by_l (fun h => by rw [wrapS' ha hl]; exact hn h) hB

theorem lp12_4 (a b : GModule) (hl : a.funcs.length ≤ 1048576) (hab : a.funcs.length = b.funcs.length) (oa : ∀ x ∈ a.funcs, OkFn x) (ob : ∀ x ∈ b.funcs, OkFn x) (Q : Value → List ABlk → Prop)
    (hE : eqB a.funcs b.funcs = true → LoopG Tryz.prog gs 0 (tab12.live 12 9) (its (bodyOf Tryz.f12) 9) ⟨12, slots 235 [(2, ptrV 0), (3, ptrV 1), (6, i64 (nI 0))], [], none⟩ (mem [.cells (cellsM a) 0, .cells (cellsM b) 0]) Q) (hB : eqB a.funcs b.funcs = false → Q (.bool false) []) :
    LoopG Tryz.prog gs 0 (tab12.live 12 4) (its (bodyOf Tryz.f12) 4) ⟨12, slots 235 [(2, ptrV 0), (3, ptrV 1), (5, i64 (nI 0))], [], none⟩ (mem [.cells (cellsM a) 0, .cells (cellsM b) 0]) Q := by
  refine pairs a.funcs b.funcs hab (fun k => LoopG Tryz.prog gs 0 (tab12.live 12 4) (its (bodyOf Tryz.f12) 4) ⟨12, slots 235 [(2, ptrV 0), (3, ptrV 1), (5, i64 (nI k))], [], none⟩ (mem [.cells (cellsM a) 0, .cells (cellsM b) 0]) Q) _ _ (fun hE => ?_) (fun k ha hb hn hB => ?_) hE hB
  · refine LoopG_of (T := tab12) mixedP noGoP 4000 (by kernel_rfl) fun J => ?_
    rw [t12_4]
    exact bif_f ltF hE
  · refine LoopG_of (T := tab12) mixedP noGoP 4000 (by kernel_rfl) fun J => ?_
    rw [t12_4]
    refine bif_t (ltT ha) ?_
    rw [fnB] at hB hn
    refine bif_t (inb ha) ⟨_, getK _ ha, ?_⟩
    refine bif_t (inb hb) ⟨_, getK _ hb, ?_⟩
    refine by_n hB fun h1 => ?_
    rw [h1, Bool.true_and] at hB hn
    refine bif_t (inb ha) ⟨_, getK _ ha, ?_⟩
    refine ⟨_, bytesOf_u8 _, ?_⟩
    refine bif_t (inb hb) ⟨_, getK _ hb, ?_⟩
    refine ⟨_, bytesOf_u8 _, ?_⟩
    rw [okEq (oa _ (List.getElem_mem ha)).l (ob _ (List.getElem_mem hb)).l]
    refine by_n hB fun h1 => ?_
    rw [h1, Bool.true_and] at hB hn
    refine bif_t (inb ha) ⟨_, getK _ ha, ?_⟩
    refine bif_t (inb hb) ⟨_, getK _ hb, ?_⟩
    refine ⟨_, eq44 _ _ (oa _ (List.getElem_mem ha)).b, ?_⟩
    exact by_l (fun h => by rw [wrapS' ha hl]; exact hn h) hB

theorem modB2 (x y : GModule) : eqB x y = (eqB x.types y.types && ((eqB x.imports y.imports && (eqB x.exports y.exports && eqB x.globals y.globals)) && (eqB x.tables y.tables && (eqB x.memories y.memories && ((x.starts == y.starts) && (decide (x.start = y.start) && (eqB x.funcs y.funcs && (eqB x.elems y.elems && eqB x.datas y.datas)))))))) := by
  cases x; cases y; rw [Bool.eq_iff_iff]; simp [eqB]
  intro _
  constructor <;> (intro h; simp [h])
/-- what the document's Same answers -/
theorem eq12 (a b : GModule) (h : OkM a) (h' : OkM b) : K1 Tryz.prog gs 12 [encM a, encM b] (.bool (eqB a b)) := by
  refine K1_of (T := tab12) (c := bodyOf Tryz.f12) mixedP noGoP Tryz.func12 (by kernel_rfl) 4000 ?_
  rw [show ([encM a, encM b] : List Value).length = 2 from rfl, t12, modB2]
  refine ⟨_, eq41 _ _ h.types.1 h.types.2 h'.types.2, by_n (qk _ _ ∘ Eq.symm) fun h1 => ?_⟩
  rw [h1, Bool.true_and]
  refine ⟨_, eq42 _ _ h, by_n (qk _ _ ∘ Eq.symm) fun h1 => ?_⟩
  rw [h1, Bool.true_and]
  refine ⟨_, eq43 _ _ h.tables, by_n (qk _ _ ∘ Eq.symm) fun h1 => ?_⟩
  rw [h1, Bool.true_and]
  refine ⟨_, eq43 _ _ h.memories, by_n (qk _ _ ∘ Eq.symm) fun h1 => ?_⟩
  rw [h1, Bool.true_and]
  refine by_n (qk _ _ ∘ Eq.symm) fun h1 => ?_
  rw [h1, Bool.true_and]
  refine by_n (qk _ _ ∘ Eq.symm) fun h1 => ?_
  rw [h1, Bool.true_and]
  refine bif_c (fun h => qk _ _ (by rw [eqB_len h]; simp)) (fun h1 => ?_)
  refine bif_c (fun h => qk _ _ (by rw [eqB_len h]; simp)) (fun h2 => ?_)
  refine bif_c (fun h => qk _ _ (by rw [eqB_len h]; simp)) (fun h3 => ?_)
  refine lp12_4 a b h.funcs.1 (len_of h1) h.funcs.2 h'.funcs.2 _ (fun e1 => ?_) (fun e => qk _ _ (by rw [e]; simp))
  refine lp12_9 a b h.elems.1 (len_of h2) h.elems.2 _ (fun e2 => ?_) (fun e => qk _ _ (by rw [e]; simp))
  exact lp12_14 a b h.datas.1 (len_of h3) h.datas.2 h'.datas.2 _ (fun e3 => qk _ _ (by rw [e1, e2, e3]; rfl)) (fun e => qk _ _ (by rw [e]; simp))

end Go.Proofs.YtmcmaklilfgdiaaGreat
