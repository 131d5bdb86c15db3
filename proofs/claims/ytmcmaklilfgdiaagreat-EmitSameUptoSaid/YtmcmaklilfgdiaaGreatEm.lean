/- The evaluator is sound: code, calls, rounds. -/
import Derived.Test.YtmcmaklilfgdiaaGreatEl
namespace Go.Proofs.YtmcmaklilfgdiaaGreat.Ev
open Go Go.RowKit

section
variable {P : Program} {w0 : Bs} {ih : Task → AH → Option Out}

def resF (t : Array Value) : ResultVar → Sem Value
  | .tmp i => pure (t.getD i undef)
  | .cell a ty => do loadVar ty (← asAddr (t.getD a undef))

theorem results_eq (fn : Func) (t : Array Value) : results fn t = (do let vs ← fn.results.mapM (resF t); pure (if h : vs.size = 1 then vs[0] else .tuple vs) : Sem Value) := by
  unfold results
  refine congrArg (fun g => (do let vs ← fn.results.mapM g; pure (if h : vs.size = 1 then vs[0] else .tuple vs) : Sem Value)) ?_
  funext x; cases x <;> rfl

theorem resE_sound {h : AH} {σ : Sg} {w : World} (r : R w0 σ h w) {l : List Value} {t : Array Value} (ht : VRs σ l t.toList) : ∀ {rs : List ResultVar} {vs : List Value}, resE P l h rs = some vs →
    ∃ vs' : List Value, VRs σ vs vs' ∧ (rs.mapM (m := Sem) (resF t)).run P w = .ok vs' w
  | [], vs, e => by cases e; exact ⟨[], .nil, by simp⟩
  | .tmp i :: rs, vs, e => by
    simp only [resE, getL_eq, Option.map_eq_some_iff] at e
    obtain ⟨l', hl, rfl⟩ := e
    obtain ⟨vs', hv, hrun⟩ := resE_sound r ht hl
    exact ⟨t.getD i undef :: vs', .cons (getD_VR ht i) hv, by simp only [List.mapM_cons, resF, Sem.run_bind, Sem.run_pure, Result.andThen_ok, hrun]⟩
  | .cell a ty :: rs, vs, e => by
    simp only [resE, getL_eq] at e
    split at e
    · rename_i v hv
      simp only [Option.map_eq_some_iff] at e
      obtain ⟨l', hl, rfl⟩ := e
      obtain ⟨vs', hvs, hrun⟩ := resE_sound r ht hl
      obtain ⟨v', _, hr, x, hx, hload⟩ := load_sound r hv (getD_VR ht a)
      have ha : (asAddr (t.getD a undef)).run P w = .ok x w := by rw [hx]; rfl
      exact ⟨v' :: vs', .cons hr hvs, by simp only [List.mapM_cons, resF, Sem.run_bind, ha, Sem.run_pure, Result.andThen_ok, hload, hrun]⟩
    · cases e

theorem outV_VR {σ : Sg} {vs vs' : List Value} (h : VRs σ vs vs') : VR σ (outV vs) (outV vs') := by
  cases h with
  | nil => exact .tuple .nil
  | cons h1 t => cases t with
    | nil => exact h1
    | cons h2 t => exact .tuple (.cons h1 (.cons h2 t))

theorem results_sound {h : AH} {σ : Sg} {w : World} (r : R w0 σ h w) {l : List Value} {t : Array Value} (ht : VRs σ l t.toList) {fn : Func} {vs : List Value} (e : resE P l h fn.results.toList = some vs) :
    ∃ v', VR σ (outV vs) v' ∧ (results fn t).run P w = .ok v' w := by
  obtain ⟨vs', hv, hrun⟩ := resE_sound (P := P) r ht e
  refine ⟨outV vs', outV_VR hv, ?_⟩
  have hm : ∀ g : ResultVar → Sem Value, (fn.results.toList.mapM g).run P w = .ok vs' w → (fn.results.mapM g).run P w = .ok ⟨vs'⟩ w := by
    intro g hg
    rw [Array.mapM_eq_mapM_toList, Sem.run_map, hg]
    rfl
  rw [results_eq]
  simp only [Sem.run_bind]
  rw [hm _ hrun]
  simp only [Result.andThen_ok, Sem.run_pure]
  congr 1
  match vs' with
  | [] => rfl
  | [v] => rfl
  | v :: u :: l => rfl

theorem unwind_sound (hC : CallOK P w0 ih) (hN : ∀ (f : FuncId) (fn : Func), P.funcs[f]? = some fn → (fn.name == "runtime.NumGoroutine") = false) {fn : FuncId} {kind : CallKind} {t : Array Value} {todo : List Item} {cs : List Frame} :
    ∀ (l : List ADef) {d : List Deferred} {h h' : AH} {σ : Sg} {w : World}, unwindE ih l h = some h' → R w0 σ h w → DRs σ l d →
      ∃ σ' w', Ext σ σ' ∧ R w0 σ' h' w' ∧ Steps P (lone (back fn kind t d todo) cs w) (lone (back fn kind t [] todo) cs w')
  | [], d, h, h', σ, w, e, r, hd => by cases e; cases hd; exact ⟨σ, w, Ext.refl σ, r, .refl _ _⟩
  | .collected id :: l, d, h, h', σ, w, e, r, hd => by
    cases hd with
    | cons h1 h2 =>
      simp only [unwindE] at e
      split at e
      · rename_i hg
        obtain ⟨p, hp, rfl⟩ := h1
        have hb := r.br _ _ p hg hp
        obtain ⟨hN0, hobj⟩ := hb
        simp only [if_true] at hobj
        have hlt : p.blk < w.heap.size := (Array.getElem?_eq_some_iff.1 hobj).1
        have r' := r.turn (b' := .defs false) (w' := { w with heap := w.heap.setIfInBounds p.blk (.deferred none) }) hg rfl hp (by simp) rfl rfl rfl (fun k hk => by
          show (w.heap.setIfInBounds p.blk _)[k]? = _
          rw [Array.getElem?_setIfInBounds_ne (fun hh => hk hh.symm)]) ⟨hN0, by
          show (w.heap.setIfInBounds p.blk _)[p.blk]? = _
          rw [Array.getElem?_setIfInBounds_self_of_lt hlt]; rfl⟩
        obtain ⟨σ', w', g1, g2, g3⟩ := unwind_sound hC hN l e r' h2
        exact ⟨σ', w', g1, g2, .head (sk_collected hobj) g3⟩
      · cases e
  | .fn f args :: l, d, h, h', σ, w, e, r, hd => by
    cases hd with
    | cons h1 h2 =>
      rename_i d' ds
      simp only [unwindE] at e
      split at e
      · rename_i out hout
        obtain ⟨cap', args', rfl, hv⟩ := h1
        have hva : VRs σ args (args' ++ cap').toList := by simpa using hv
        obtain ⟨v, σ1, w1, v', fr, k1, k2, k3, k4, k5, k6, k7, k8, ⟨fn1, k9, k10⟩, _, fn2, k11, k12⟩ := hC _ _ _ _ .deferred hout σ w (args' ++ cap') (back fn kind t ds todo :: cs) r hva (.inr ⟨rfl, _, _, rfl, rfl⟩)
        obtain ⟨σ', w', g1, g2, g3⟩ := unwind_sound hC hN l e k3 (h2.mono k2)
        have hbn : fn2.body.isNone = false := by cases hx : fn2.body with
          | none => rw [hx] at k12; cases k12
          | some _ => rfl
        exact ⟨σ', w', k2.trans g1, g2, .head (sk_deferred k11 (hN f fn2 k11) hbn) (k5.trans (.head (sk_deferred_back k6 k7 k8 rfl k9 k10) g3))⟩
      · cases e

/-- a call, by its body -/
theorem call_ok (hK : CodeOK P w0 ih) (hC : CallOK P w0 ih) (hN : ∀ (f : FuncId) (fn : Func), P.funcs[f]? = some fn → (fn.name == "runtime.NumGoroutine") = false) : CallOK P w0 (stepC P ih) := by
  intro f args h out kind e σ w args' cs r hv hk
  have e : stepC P ih (.call f args) h = some out := by cases kind <;> exact e
  simp only [stepC] at e
  split at e
  · rename_i fn hfn
    split at e
    · rename_i c hc
      let b : Frame := { (default : Frame) with fn := f, kind := kind, roundOf := none }
      have henter : Frame.enter P f args' kind = mk b (args' ++ Array.replicate (fn.ntmps - args'.size) undef) [] [.code c] := by
        simp [Frame.enter, mk, hfn, hc, b]
      have hlen : args.length = args'.size := by rw [hv.length, Array.length_toList]
      have hfr : FR σ ⟨f, args ++ List.replicate (fn.ntmps - args.length) undef, [], none⟩ b (args' ++ Array.replicate (fn.ntmps - args'.size) undef) [] := by
        refine ⟨rfl, ?_, .nil, trivial⟩
        simp only [Array.toList_append, Array.toList_replicate, hlen]
        exact hv.append (VRs.replicate (undef_VR σ) _)
      have hcs : CsOk b cs := hk
      have main : ∀ (a : AF) (h1 : AH) (e1 : AExit), ih (.code c ⟨f, args ++ List.replicate (fn.ntmps - args.length) undef, [], none⟩) h = some ⟨e1, a, h1⟩ → (∀ id, e1 ≠ .exit id) →
          (match unwindE ih a.defs h1 with
            | some h2 => (resE P a.tmps h2 fn.results.toList).map fun vs => ⟨.ret, ⟨f, [outV vs], [], none⟩, h2⟩
            | none => none) = some out →
          ∃ v σ' w' v' fr, out.a.tmps = [v] ∧ Ext σ σ' ∧ R w0 σ' out.h w' ∧ VR σ' v v' ∧ Steps P (lone (Frame.enter P f args' kind) cs w) (lone fr cs w') ∧ fr.mode = .returning ∧ fr.defers = [] ∧ fr.kind = kind ∧
            (∃ fn, P.funcs[fr.fn]? = some fn ∧ (results fn fr.tmps).run P w' = .ok v' w') ∧ fr.fn = f ∧ ∃ fn, P.funcs[f]? = some fn ∧ fn.body.isSome = true := by
        intro a h1 e1 hc1 hne hu
        split at hu
        · rename_i h2 hun
          simp only [Option.map_eq_some_iff] at hu
          obtain ⟨vs, hvs, rfl⟩ := hu
          obtain ⟨σ1, w1, t1, d1, g1, g2, g3, g4⟩ := hK _ _ _ _ hc1 σ w b _ _ [] cs r hfr hcs
          have hback : ∃ todo, Steps P (lone (Frame.enter P f args' kind) cs w) (lone (back f kind t1 d1 todo) cs w1) := by
            rw [henter]
            cases e1 with
            | normal => exact ⟨[], Steps.trans g4 (.one (sk_end rfl))⟩
            | ret =>
              obtain ⟨todo, hs⟩ := g4
              exact ⟨_, hs.trans (.one (sk_ret rfl))⟩
            | exit id => exact absurd rfl (hne id)
          obtain ⟨todo, hst⟩ := hback
          obtain ⟨σ2, w2, j1, j2, j3⟩ := unwind_sound hC hN (fn := f) (kind := kind) (t := t1) (todo := todo) (cs := cs) a.defs hun g2 g3.defs
          obtain ⟨v', hr, hrun⟩ := results_sound (P := P) j2 (g3.tmps.mono j1) hvs
          exact ⟨_, σ2, w2, v', back f kind t1 [] todo, rfl, g1.trans j1, j2, hr, hst.trans j3, rfl, rfl, rfl, ⟨fn, hfn, hrun⟩, rfl, fn, hfn, by rw [hc]; rfl⟩
        · cases hu
      split at e
      · cases e
      · rename_i e1 a h1 hne hx
        exact main a h1 e1 hx (fun id hh => hne id hh) e
      · cases e
    · cases e
  · cases e

end
end Go.Proofs.YtmcmaklilfgdiaaGreat.Ev
