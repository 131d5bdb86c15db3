/- The evaluator is sound: rounds, and all code. -/
import Derived.Test.YtmcmaklilfgdiaaGreatEm
namespace Go.Proofs.YtmcmaklilfgdiaaGreat.Ev
open Go Go.RowKit

section moves
variable {P : Program} {b : Frame} {t : Array Value} {d : List Deferred} {k : List Item} {cs : List Frame} {w : World}

def putObj (w : World) (blk : Nat) (o : Obj) : World := { w with heap := w.heap.setIfInBounds blk o }

theorem run_getLoop' {blk : Nat} {L : Loop} (h : w.heap[blk]? = some (.loop L)) : (Instr.getLoop blk).run P w = .ok L w := by
  simp [Instr.getLoop, getObj, Sem.run, h]
theorem run_setObj' {blk : Nat} {L : Loop} (h : w.heap[blk]? = some (.loop L)) (o : Obj) : (setObj blk o).run P w = .ok () (putObj w blk o) := by
  simp [setObj, Sem.run, h, putObj]

theorem sk_begin {blk : Nat} {L : Loop} (hb : b.roundOf = some blk) (h : w.heap[blk]? = some (.loop L)) (hs : L.state = .ready) :
    step P (lone (mk b t d (.beginRound :: k)) cs w) = .next (lone (mk b t d k) cs (putObj w blk (.loop { L with state := .busy }))) := by
  have hr : (do (mk b t d (.beginRound :: k)).roundOf.elim (stuck "beginRound: no round") Instr.beginRound; pure Next.skip : Sem Next).run P w = .ok .skip (putObj w blk (.loop { L with state := .busy })) := by
    have hro : (mk b t d (.beginRound :: k)).roundOf = some blk := hb
    rw [hro]
    simp only [Option.elim, Instr.beginRound, Sem.run_bind, run_getLoop' h, Result.andThen_ok, run_setObj' h, hs, Sem.run_pure]
  have hx : stepG P true { frame := mk b t d (.beginRound :: k), callers := cs, status := .running, dying := none } w =
      stepG.apply P true (mk b t d (.beginRound :: k)) cs none (do (mk b t d (.beginRound :: k)).roundOf.elim (stuck "beginRound: no round") Instr.beginRound; pure Next.skip) w := by
    simp [stepG, stepG.exec, mk]
  refine step_lone_go ?_
  rw [hx]
  generalize hs' : (do (mk b t d (.beginRound :: k)).roundOf.elim (stuck "beginRound: no round") Instr.beginRound; pure Next.skip : Sem Next) = s at hr
  simp [stepG.apply, hr, Frame.finish, mk]

theorem run_endRound {blk : Nat} {L : Loop} (h : w.heap[blk]? = some (.loop L)) (j : Option Code) :
    (Instr.endRound blk j).run P w = .ok (.bool j.isNone) (putObj w blk (.loop { L with state := if j.isNone then .ready else .done, pending := j })) := by
  simp only [Instr.endRound, Sem.run_bind, run_getLoop' h, Result.andThen_ok, run_setObj' h, Sem.run_pure]

theorem sk_leave_end {blk : Nat} {L : Loop} {c : Frame} (hb : b.roundOf = some blk) (hk : b.kind = .normal) (h : w.heap[blk]? = some (.loop L)) :
    step P (lone (mk b t d []) (c :: cs) w) = .next (lone (c.finish (.bool true)) cs (putObj w blk (.loop { L with state := .ready, pending := none }))) := by
  have hr := run_endRound (P := P) h none
  exact step_lone_go (by simp [stepG, stepG.exec, mk, hb, hk, hr, doReturn])

theorem sk_leave_ret {blk : Nat} {L : Loop} {c : Frame} (hb : b.roundOf = some blk) (hk : b.kind = .normal) (h : w.heap[blk]? = some (.loop L)) :
    step P (lone (mk b t d (.code .ret :: k)) (c :: cs) w) = .next (lone (c.finish (.bool false)) cs (putObj w blk (.loop { L with state := .done, pending := some .ret }))) := by
  have hr := run_endRound (P := P) h (some .ret)
  exact step_lone_go (by simp [stepG, stepG.exec, mk, hb, hk, hr, doReturn])

theorem sk_leave_exit {blk id : Nat} {L : Loop} {c : Frame} (hb : b.roundOf = some blk) (hk : b.kind = .normal) (h : w.heap[blk]? = some (.loop L)) (he : exitTo id k = none) :
    step P (lone (mk b t d (.code (.exit id) :: k)) (c :: cs) w) = .next (lone (c.finish (.bool false)) cs (putObj w blk (.loop { L with state := .done, pending := some (.exit id) }))) := by
  have hr := run_endRound (P := P) h (some (.exit id))
  exact step_lone_go (by simp [stepG, stepG.exec, mk, hb, hk, hr, doReturn, he])

theorem sk_range {f : Operand} {params : Array Tmp} {assign body : Code} {g : FuncId} {first cap : List Value} {fn : Func} {L : Nat} {mark : List Deferred} {w1 : World}
    (hf : evalC t f = .func (.func g) ⟨first⟩ ⟨cap⟩) (hfn : P.funcs[g]? = some fn) (hn : (fn.name == "runtime.NumGoroutine") = false) (hbd : fn.body.isNone = false)
    (hr : (Instr.enterLoop b.fn t params assign body b.roundOf).run P w = .ok (L, mark) w1) :
    step P (lone (mk b t d (.code (.rangeFunc f params assign body) :: k)) cs w) =
      .next (lone (Frame.enter P g ((⟨first⟩ ++ #[Value.func (.yield L) #[] #[]]) ++ ⟨cap⟩) .normal) (mk b t (mark ++ d) (.inRangeFunc L :: k) :: cs) w1) := by
  have he : (mk b t (mark ++ d) (.inRangeFunc L :: k)).eval = evalC t := eval_mk _ _ _ _
  have hr2 : (do let dd ← resolve (mk b t (mark ++ d) (.inRangeFunc L :: k)).eval { callee := .value f, args := #[.const (.func (.yield L) #[] #[])], argTypes := #[] } 0; invoke dd.target dd.args : Sem Next).run P w1 =
      .ok (.enter g ((⟨first⟩ ++ #[Value.func (.yield L) #[] #[]]) ++ ⟨cap⟩)) w1 := by
    rw [he]
    have ha : (#[Operand.const (.func (.yield L) #[] #[])] : Array Operand).map (evalC t) = #[Value.func (.yield L) #[] #[]] := by simp [evalC]
    simp only [resolve, hf, ha, Deferred.ofValue, Sem.run_bind, Sem.run_pure, Result.andThen_ok, invoke, callFunc, run_program, hfn, hn, Bool.false_eq_true, if_false, hbd]
  refine step_lone_go ?_
  simp only [mk] at hr2 ⊢
  simp only [stepG, stepG.exec, hr, Sem.runT_eq, GStep.bare_after]
  simp only [stepG.apply, hr2, if_true, Sem.runT_eq, GStep.bare_after]
  rfl

theorem finish_range {L : Nat} {v : Value} : (mk b t d (.inRangeFunc L :: k)).finish v = mk b t d (.endRangeFunc L :: k) := rfl

theorem sk_endrange {blk : Nat} {L : Loop} (h : w.heap[blk]? = some (.loop L)) (hs : (L.state == .busy) = false) :
    step P (lone (mk b t d (.endRangeFunc blk :: k)) cs w) = .next (lone (mk b t d ((L.pending.map Item.code).toList ++ k)) cs (putObj w blk (.loop { L with state := .exhausted }))) := by
  have hr : (Instr.endLoop blk).run P w = .ok L.pending (putObj w blk (.loop { L with state := .exhausted })) := by
    simp only [Instr.endLoop, Sem.run_bind, run_getLoop' h, Result.andThen_ok, hs, Bool.false_eq_true, if_false, run_setObj' h, Sem.run_pure]
  exact step_lone_go (by simp [stepG, stepG.exec, mk, hr])

end moves

section
variable {P : Program} {w0 : Bs} {ih : Task → AH → Option Out}

theorem setPs_eq : ∀ (ps : List Tmp) (as : List Value) (t : List Value), (ps.zip as).foldl (fun (t : Array Value) (x : Tmp × Value) => t.setIfInBounds x.1 x.2) ⟨t⟩ = ⟨setPs ps as t⟩
  | [], _, _ => by simp [setPs]
  | _ :: _, [], _ => by simp [setPs]
  | p :: ps, a :: as, t => by
    simp only [List.zip_cons_cons, List.foldl_cons, setPs, setL_eq, List.setIfInBounds_toArray]
    exact setPs_eq ps as (t.set p a)

theorem setPs_VR {σ : Sg} : ∀ (ps : List Tmp) {as as' t t' : List Value}, VRs σ as as' → VRs σ t t' → VRs σ (setPs ps as t) (setPs ps as' t')
  | [], _, _, _, _, _, h => by simpa [setPs] using h
  | _ :: _, _, _, _, _, .nil, h => by simpa [setPs] using h
  | p :: ps, _, _, _, _, .cons ha hs, h => by simp only [setPs, setL_eq]; exact setPs_VR ps hs (h.set p ha)

/-- a loop's block -/
theorem R.loop {h : AH} {σ : Sg} {w : World} (r : R w0 σ h w) {l : Nat} {st : LoopState} {pd : Option Code} {fn : FuncId} {tm : List Value} {ps : List Tmp} {as bd : Code} {df : Nat} {p : Pl}
    (hg : h.get l = some (.loop st pd fn tm ps as bd df)) (hp : pl σ l = some p) : ∃ tm' pdf, VRs σ tm tm' ∧ pl σ df = some pdf ∧
      w.heap[p.blk]? = some (.loop { state := st, pending := pd, fn := fn, tmps := ⟨tm'⟩, params := ⟨ps⟩, assign := as, body := bd, defers := pdf.blk }) ∧
      ∀ st' pd', R w0 σ (h.set l (.loop st' pd' fn tm ps as bd df)) (putObj w p.blk (.loop { state := st', pending := pd', fn := fn, tmps := ⟨tm'⟩, params := ⟨ps⟩, assign := as, body := bd, defers := pdf.blk })) := by
  have hb := r.br _ _ p hg hp
  obtain ⟨hN0, tm', pdf, h1, h2, h3⟩ := hb
  have hlt : p.blk < w.heap.size := (Array.getElem?_eq_some_iff.1 h3).1
  refine ⟨tm', pdf, h1, h2, h3, fun st' pd' => ?_⟩
  exact r.turn hg rfl hp (by simp [putObj]) rfl rfl rfl (fun k hk => by
    show (w.heap.setIfInBounds p.blk _)[k]? = _
    rw [Array.getElem?_setIfInBounds_ne (fun hh => hk hh.symm)]) ⟨hN0, tm', pdf, h1, h2, by
    show (w.heap.setIfInBounds p.blk _)[p.blk]? = _
    rw [Array.getElem?_setIfInBounds_self_of_lt hlt]⟩

theorem round_ok (hK : CodeOK P w0 ih) : RoundOK P w0 (stepC P ih) := by
  intro l args h out e σ w p args' r hp hv
  simp only [stepC] at e
  split at e
  · rename_i st pd fn tm ps as bd df hg
    obtain ⟨tm', pdf, h1, h2, h3, _⟩ := r.loop hg hp
    split at e
    · rename_i hlen
      simp only [Nat.beq_eq] at hlen
      have hyield : (Instr.yield p.blk args').run P w = .ok (.round p.blk fn ⟨setPs ps args'.toList tm'⟩ as bd) w := by
        have hsz : args'.size = ps.length := by rw [← Array.length_toList, ← hv.length]; exact hlen
        have hz : ((⟨ps⟩ : Array Tmp).zip args').foldl (fun (t : Array Value) (x : Tmp × Value) => t.setIfInBounds x.1 x.2) ⟨tm'⟩ = ⟨setPs ps args'.toList tm'⟩ := by
          rw [← Array.foldl_toList, Array.toList_zip]
          exact setPs_eq ps args'.toList tm'
        have hne : ¬ (args'.size ≠ (⟨ps⟩ : Array Tmp).size) := by simp [hsz]
        simp only [Instr.yield, Sem.run_bind, run_getLoop' h3, Result.andThen_ok, if_neg hne, Sem.run_pure]
        exact congrArg (fun z => Result.ok (Next.round p.blk fn z as bd) w) hz
      refine ⟨fn, ⟨setPs ps args'.toList tm'⟩, as, bd, hyield, fun caller cs => ?_⟩
      let b : Frame := { (default : Frame) with fn := fn, kind := .normal, roundOf := some p.blk }
      have hround : Frame.round p.blk fn ⟨setPs ps args'.toList tm'⟩ as bd .normal = mk b ⟨setPs ps args'.toList tm'⟩ [] [.code as, .beginRound, .code bd] := rfl
      have hfr : FR σ ⟨fn, setPs ps args tm, [], some l⟩ b ⟨setPs ps args'.toList tm'⟩ [] := ⟨rfl, setPs_VR ps hv h1, .nil, p, hp, rfl⟩
      split at e
      · rename_i a1 h1' hc1
        obtain ⟨σ1, w1, t1, d1, g1, g2, g3, g4⟩ := hK _ _ _ _ hc1 σ w b _ _ [.beginRound, .code bd] (caller :: cs) r hfr (.inl rfl)
        split at e
        · rename_i pend fn1 tmps1 ps1 as1 bd1 df1 hg1
          have hp1 := g1 _ _ hp
          obtain ⟨tm1, pdf1, k1, k2, k3, k4⟩ := g2.loop hg1 hp1
          have hbegin := sk_begin (P := P) (b := b) (t := t1) (d := d1) (k := [.code bd]) (cs := caller :: cs) rfl k3 rfl
          split at e
          · rename_i e2 a2 h3' hc2
            obtain ⟨σ2, w2, t2, d2, j1, j2, j3, j4⟩ := hK _ _ _ _ hc2 σ1 _ b t1 d1 [] (caller :: cs) (k4 .busy pend) g3 (.inl rfl)
            split at e
            · rename_i st3 pd3 fn2 tmps2 ps2 as2 bd2 df2 hdefs hg3
              cases e
              have hp2 := j1 _ _ hp1
              obtain ⟨tm2, pdf2, m1, m2, m3, m4⟩ := j2.loop hg3 hp2
              have pre : Steps P (lone (Frame.round p.blk fn ⟨setPs ps args'.toList tm'⟩ as bd .normal) (caller :: cs) w) (lone (mk b t1 d1 [.code bd]) (caller :: cs) (putObj w1 p.blk (.loop { state := .busy, pending := pend, fn := fn1, tmps := ⟨tm1⟩, params := ⟨ps1⟩, assign := as1, body := bd1, defers := pdf1.blk }))) := by
                rw [hround]; exact Steps.trans g4 (.one hbegin)
              cases e2 with
              | normal =>
                exact ⟨_, σ2, _, _, rfl, g1.trans j1, m4 .ready none, .bool _, (pre.trans j4).trans (.one (sk_leave_end rfl rfl m3))⟩
              | ret =>
                obtain ⟨todo, hs⟩ := j4
                exact ⟨_, σ2, _, _, rfl, g1.trans j1, m4 .done (some .ret), .bool _, (pre.trans hs).trans (.one (sk_leave_ret rfl rfl m3))⟩
              | exit id =>
                obtain ⟨todo, he, hs⟩ := j4
                exact ⟨_, σ2, _, _, rfl, g1.trans j1, m4 .done (some (.exit id)), .bool _, (pre.trans hs).trans (.one (sk_leave_exit rfl rfl m3 (by rw [he]; rfl)))⟩
            · cases e
          · cases e
        · cases e
      · cases e
    · cases e
  · cases e

end
end Go.Proofs.YtmcmaklilfgdiaaGreat.Ev
