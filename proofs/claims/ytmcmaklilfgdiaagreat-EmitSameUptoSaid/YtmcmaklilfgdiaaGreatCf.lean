/- The document's comparisons. -/
import Derived.Test.YtmcmaklilfgdiaaGreatCe
namespace Go.Proofs.YtmcmaklilfgdiaaGreat
open Go Go.RowKit Ev

theorem lp43_4 (a b : List GLimits) (hl : a.length ≤ 1048576) (hab : a.length = b.length) (Q : Value → List ABlk → Prop)
    (hE : eqB a b = true → Q (.bool true) []) (hB : eqB a b = false → Q (.bool false) []) :
    LoopG Tryz.prog gs 0 (tab43.live 43 4) (its (bodyOf Tryz.f43) 4) ⟨43, slots 26 [(0, encL 3 encLim a), (1, encL 3 encLim b), (5, i64 (nI 0))], [], none⟩ (mem []) Q := by
  refine pairs a b hab (fun k => LoopG Tryz.prog gs 0 (tab43.live 43 4) (its (bodyOf Tryz.f43) 4) ⟨43, slots 26 [(0, encL 3 encLim a), (1, encL 3 encLim b), (5, i64 (nI k))], [], none⟩ (mem []) Q) _ _ (fun hE => ?_) (fun k ha hb hn hB => ?_) hE hB
  · refine LoopG_of (T := tab43) mixedP noGoP 4000 (by kernel_rfl) fun J => ?_
    rw [t43_4]
    exact bif_f ltF hE
  · refine LoopG_of (T := tab43) mixedP noGoP 4000 (by kernel_rfl) fun J => ?_
    rw [t43_4]
    refine bif_t (ltT ha) ?_
    rw [← limB] at hB hn
    refine bif_t (inb ha) ⟨_, getK _ ha, ?_⟩
    refine bif_t (inb hb) ⟨_, getK _ hb, ?_⟩
    exact by_l (fun h => by rw [wrapS' ha hl]; exact hn h) hB

theorem eq43 (a b : List GLimits) (hl : a.length ≤ 1048576) : K1 Tryz.prog gs 43 [encL 3 encLim a, encL 3 encLim b] (.bool (eqB a b)) := by
  refine K1_of (T := tab43) (c := bodyOf Tryz.f43) mixedP noGoP Tryz.func43 (by kernel_rfl) 4000 ?_
  rw [show ([encL 3 encLim a, encL 3 encLim b] : List Value).length = 2 from rfl, t43]
  refine bif_c (fun h => ⟨by rw [eqB_len h], rfl⟩) (fun h => ?_)
  exact lp43_4 a b hl (len_of h) _ (fun h => qk _ _ h.symm) (fun h => qk _ _ h.symm)

theorem lp45_4 (a b : List Int) (hl : a.length ≤ 1048576) (hab : a.length = b.length) (Q : Value → List ABlk → Prop)
    (hE : eqB a b = true → Q (.bool true) []) (hB : eqB a b = false → Q (.bool false) []) :
    LoopG Tryz.prog gs 0 (tab45.live 45 4) (its (bodyOf Tryz.f45) 4) ⟨45, slots 26 [(0, words a), (1, words b), (5, i64 (nI 0))], [], none⟩ (mem []) Q := by
  refine pairs a b hab (fun k => LoopG Tryz.prog gs 0 (tab45.live 45 4) (its (bodyOf Tryz.f45) 4) ⟨45, slots 26 [(0, words a), (1, words b), (5, i64 (nI k))], [], none⟩ (mem []) Q) _ _ (fun hE => ?_) (fun k ha hb hn hB => ?_) hE hB
  · refine LoopG_of (T := tab45) mixedP noGoP 4000 (by kernel_rfl) fun J => ?_
    rw [t45_4]
    exact bif_f ltF hE
  · refine LoopG_of (T := tab45) mixedP noGoP 4000 (by kernel_rfl) fun J => ?_
    rw [t45_4]
    refine bif_t (ltT ha) ?_
    rw [← intB] at hB hn
    refine bif_t (inb ha) ⟨_, getK _ ha, ?_⟩
    refine bif_t (inb hb) ⟨_, getK _ hb, ?_⟩
    exact by_l (fun h => by rw [wrapS' ha hl]; exact hn h) hB

theorem eq45 (a b : List Int) (hl : a.length ≤ 1048576) : K1 Tryz.prog gs 45 [words a, words b] (.bool (eqB a b)) := by
  refine K1_of (T := tab45) (c := bodyOf Tryz.f45) mixedP noGoP Tryz.func45 (by kernel_rfl) 4000 ?_
  rw [show ([words a, words b] : List Value).length = 2 from rfl, t45]
  refine bif_c (fun h => ⟨by rw [eqB_len h], rfl⟩) (fun h => ?_)
  exact lp45_4 a b hl (len_of h) _ (fun h => qk _ _ h.symm) (fun h => qk _ _ h.symm)

theorem lp96_4 (a b : List Int) (hl : a.length ≤ 1048576) (hab : a.length = b.length) (Q : Value → List ABlk → Prop)
    (hE : eqB a b = true → Q (.bool true) []) (hB : eqB a b = false → Q (.bool false) []) :
    LoopG Tryz.prog gs 0 (tab96.live 96 4) (its (bodyOf Tryz.f96) 4) ⟨96, slots 26 [(0, words a), (1, words b), (5, i64 (nI 0))], [], none⟩ (mem []) Q := by
  refine pairs a b hab (fun k => LoopG Tryz.prog gs 0 (tab96.live 96 4) (its (bodyOf Tryz.f96) 4) ⟨96, slots 26 [(0, words a), (1, words b), (5, i64 (nI k))], [], none⟩ (mem []) Q) _ _ (fun hE => ?_) (fun k ha hb hn hB => ?_) hE hB
  · refine LoopG_of (T := tab96) mixedP noGoP 4000 (by kernel_rfl) fun J => ?_
    rw [t96_4]
    exact bif_f ltF hE
  · refine LoopG_of (T := tab96) mixedP noGoP 4000 (by kernel_rfl) fun J => ?_
    rw [t96_4]
    refine bif_t (ltT ha) ?_
    rw [← intB] at hB hn
    refine bif_t (inb ha) ⟨_, getK _ ha, ?_⟩
    refine bif_t (inb hb) ⟨_, getK _ hb, ?_⟩
    exact by_l (fun h => by rw [wrapS' ha hl]; exact hn h) hB

theorem eq96 (a b : List Int) (hl : a.length ≤ 1048576) : K1 Tryz.prog gs 96 [words a, words b] (.bool (eqB a b)) := by
  refine K1_of (T := tab96) (c := bodyOf Tryz.f96) mixedP noGoP Tryz.func96 (by kernel_rfl) 4000 ?_
  rw [show ([words a, words b] : List Value).length = 2 from rfl, t96]
  refine bif_c (fun h => ⟨by rw [eqB_len h], rfl⟩) (fun h => ?_)
  exact lp96_4 a b hl (len_of h) _ (fun h => qk _ _ h.symm) (fun h => qk _ _ h.symm)

theorem lp41_4 (a b : List GFuncType) (hl : a.length ≤ 1048576) (hab : a.length = b.length) (oa : ∀ x ∈ a, OkFT x) (ob : ∀ x ∈ b, OkFT x) (Q : Value → List ABlk → Prop)
    (hE : eqB a b = true → Q (.bool true) []) (hB : eqB a b = false → Q (.bool false) []) :
    LoopG Tryz.prog gs 0 (tab41.live 41 4) (its (bodyOf Tryz.f41) 4) ⟨41, slots 45 [(0, encL 2 encFT a), (1, encL 2 encFT b), (5, i64 (nI 0))], [], none⟩ (mem []) Q := by
  refine pairs a b hab (fun k => LoopG Tryz.prog gs 0 (tab41.live 41 4) (its (bodyOf Tryz.f41) 4) ⟨41, slots 45 [(0, encL 2 encFT a), (1, encL 2 encFT b), (5, i64 (nI k))], [], none⟩ (mem []) Q) _ _ (fun hE => ?_) (fun k ha hb hn hB => ?_) hE hB
  · refine LoopG_of (T := tab41) mixedP noGoP 4000 (by kernel_rfl) fun J => ?_
    rw [t41_4]
    exact bif_f ltF hE
  · refine LoopG_of (T := tab41) mixedP noGoP 4000 (by kernel_rfl) fun J => ?_
    rw [t41_4]
    refine bif_t (ltT ha) ?_
    rw [ftB] at hB hn
    refine bif_t (inb ha) ⟨_, getK _ ha, ?_⟩
    refine ⟨_, bytesOf_u8 _, ?_⟩
    refine bif_t (inb hb) ⟨_, getK _ hb, ?_⟩
    refine ⟨_, bytesOf_u8 _, ?_⟩
    rw [okEq (oa _ (List.getElem_mem ha)).p (ob _ (List.getElem_mem hb)).p]
    refine by_n hB fun h1 => ?_
    rw [h1, Bool.true_and] at hB hn
    refine bif_t (inb ha) ⟨_, getK _ ha, ?_⟩
    refine ⟨_, bytesOf_u8 _, ?_⟩
    refine bif_t (inb hb) ⟨_, getK _ hb, ?_⟩
    refine ⟨_, bytesOf_u8 _, ?_⟩
    rw [okEq (oa _ (List.getElem_mem ha)).r (ob _ (List.getElem_mem hb)).r]
    exact by_l (fun h => by rw [wrapS' ha hl]; exact hn h) hB

theorem eq41 (a b : List GFuncType) (hl : a.length ≤ 1048576) (oa : ∀ x ∈ a, OkFT x) (ob : ∀ x ∈ b, OkFT x) : K1 Tryz.prog gs 41 [encL 2 encFT a, encL 2 encFT b] (.bool (eqB a b)) := by
  refine K1_of (T := tab41) (c := bodyOf Tryz.f41) mixedP noGoP Tryz.func41 (by kernel_rfl) 4000 ?_
  rw [show ([encL 2 encFT a, encL 2 encFT b] : List Value).length = 2 from rfl, t41]
  refine bif_c (fun h => ⟨by rw [eqB_len h], rfl⟩) (fun h => ?_)
  exact lp41_4 a b hl (len_of h) oa ob _ (fun h => qk _ _ h.symm) (fun h => qk _ _ h.symm)

theorem lp44_4 (a b : List Instr) (hl : a.length ≤ 1048576) (hab : a.length = b.length) (hr : ∀ x ∈ a, ∀ y ∈ b, x.list.length ≤ 1048576 ∧ K1 Tryz.prog gs 44 [encL 9 encI x.then_, encL 9 encI y.then_] (.bool (eqB x.then_ y.then_)) ∧ K1 Tryz.prog gs 44 [encL 9 encI x.else_, encL 9 encI y.else_] (.bool (eqB x.else_ y.else_))) (Q : Value → List ABlk → Prop)
    (hE : eqB a b = true → Q (.bool true) []) (hB : eqB a b = false → Q (.bool false) []) :
    LoopG Tryz.prog gs 0 (tab44.live 44 4) (its (bodyOf Tryz.f44) 4) ⟨44, slots 91 [(0, encL 9 encI a), (1, encL 9 encI b), (5, i64 (nI 0))], [], none⟩ (mem []) Q := by
  refine pairs a b hab (fun k => LoopG Tryz.prog gs 0 (tab44.live 44 4) (its (bodyOf Tryz.f44) 4) ⟨44, slots 91 [(0, encL 9 encI a), (1, encL 9 encI b), (5, i64 (nI k))], [], none⟩ (mem []) Q) _ _ (fun hE => ?_) (fun k ha hb hn hB => ?_) hE hB
  · refine LoopG_of (T := tab44) mixedP noGoP 4000 (by kernel_rfl) fun J => ?_
    rw [t44_4]
    exact bif_f ltF hE
  · refine LoopG_of (T := tab44) mixedP noGoP 4000 (by kernel_rfl) fun J => ?_
    rw [t44_4]
    refine bif_t (ltT ha) ?_
    rw [instrB] at hB hn
    refine bif_t (inb ha) ⟨_, getK _ ha, ?_⟩
    refine bif_t (inb hb) ⟨_, getK _ hb, ?_⟩
    refine by_n hB fun h1 => ?_
    rw [h1, Bool.true_and] at hB hn
    refine by_n hB fun h1 => ?_
    rw [h1, Bool.true_and] at hB hn
    refine by_n hB fun h1 => ?_
    rw [h1, Bool.true_and] at hB hn
    refine by_n hB fun h1 => ?_
    rw [h1, Bool.true_and] at hB hn
    refine by_n hB fun h1 => ?_
    rw [h1, Bool.true_and] at hB hn
    refine by_n hB fun h1 => ?_
    rw [h1, Bool.true_and] at hB hn
    refine ⟨_, eq96 _ _ (hr _ (List.getElem_mem ha) _ (List.getElem_mem hb)).1, ?_⟩
    refine by_n hB fun h1 => ?_
    rw [h1, Bool.true_and] at hB hn
    refine ⟨_, (hr _ (List.getElem_mem ha) _ (List.getElem_mem hb)).2.1, ?_⟩
    refine by_n hB fun h1 => ?_
    rw [h1, Bool.true_and] at hB hn
    refine ⟨_, (hr _ (List.getElem_mem ha) _ (List.getElem_mem hb)).2.2, ?_⟩
    exact by_l (fun h => by rw [wrapS' ha hl]; exact hn h) hB

theorem eq44 (a b : List Instr) (h : wIs a ≤ 1048576) : K1 Tryz.prog gs 44 [encL 9 encI a, encL 9 encI b] (.bool (eqB a b)) := by
  refine K1_of (T := tab44) (c := bodyOf Tryz.f44) mixedP noGoP Tryz.func44 (by kernel_rfl) 4000 ?_
  rw [show ([encL 9 encI a, encL 9 encI b] : List Value).length = 2 from rfl, t44]
  refine bif_c (fun h => ⟨by rw [eqB_len h], rfl⟩) (fun hh => ?_)
  have hl := wIs_len a
  refine lp44_4 a b (by omega) (len_of hh) (fun x hx y _ => ?_) _ (fun h => qk _ _ h.symm) (fun h => qk _ _ h.symm)
  have h1 := wIs_mem hx
  have h2 := wI_eq x
  exact ⟨by omega, eq44 x.then_ y.then_ (by omega), eq44 x.else_ y.else_ (by omega)⟩
  termination_by wIs a

end Go.Proofs.YtmcmaklilfgdiaaGreat
