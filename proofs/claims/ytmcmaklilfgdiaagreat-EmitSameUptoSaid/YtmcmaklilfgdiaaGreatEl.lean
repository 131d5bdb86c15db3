/- The evaluator is sound: what it comes to, the machine comes to. -/
import Derived.Test.YtmcmaklilfgdiaaGreatEk
namespace Go.Proofs.YtmcmaklilfgdiaaGreat.Ev
open Go Go.RowKit

inductive DRs (σ : Sg) : List ADef → List Deferred → Prop
  | nil : DRs σ [] []
  | cons {d : ADef} {d' : Deferred} {l : List ADef} {l' : List Deferred} (h : DR σ d d') (t : DRs σ l l') : DRs σ (d :: l) (d' :: l')

theorem DRs.mono {σ σ' : Sg} (e : Ext σ σ') : ∀ {l : List ADef} {l' : List Deferred}, DRs σ l l' → DRs σ' l l'
  | _, _, .nil => .nil
  | _, _, .cons h t => .cons (h.mono e) (DRs.mono e t)

def RndR (σ : Sg) : Option Nat → Option Nat → Prop
  | none, none => True
  | some l, some b => ∃ p, pl σ l = some p ∧ p.blk = b
  | _, _ => False

theorem RndR.mono {σ σ' : Sg} (e : Ext σ σ') {a b : Option Nat} (h : RndR σ a b) : RndR σ' a b := by
  cases a <;> cases b <;> first | exact h | (obtain ⟨p, h1, h2⟩ := h; exact ⟨p, e _ _ h1, h2⟩)

structure FR (σ : Sg) (a : AF) (b : Frame) (t : Array Value) (d : List Deferred) : Prop where
  fn : a.fn = b.fn
  tmps : VRs σ a.tmps t.toList
  defs : DRs σ a.defs d
  rnd : RndR σ a.rnd b.roundOf

theorem FR.mono {σ σ' : Sg} (e : Ext σ σ') {a : AF} {b : Frame} {t : Array Value} {d : List Deferred} (h : FR σ a b t d) : FR σ' a b t d :=
  ⟨h.fn, h.tmps.mono e, h.defs.mono e, h.rnd.mono e⟩

theorem undef_VR (σ : Sg) : VR σ undef undef := .tuple .nil

theorem getD_VR {σ : Sg} {l : List Value} {t : Array Value} (h : VRs σ l t.toList) (i : Nat) : VR σ (l.getD i undef) (t.getD i undef) := by
  cases hl : l[i]? with
  | none =>
    have := h.getNone hl
    rw [Array.getElem?_toList] at this
    simp only [List.getD_eq_getElem?_getD, hl, Array.getD_eq_getD_getElem?, this, Option.getD_none]
    exact undef_VR σ
  | some v =>
    obtain ⟨v', hv', hr⟩ := h.get hl
    rw [Array.getElem?_toList] at hv'
    simp only [List.getD_eq_getElem?_getD, hl, Array.getD_eq_getD_getElem?, hv', Option.getD_some]
    exact hr

theorem FR.eval {σ : Sg} {a : AF} {b : Frame} {t : Array Value} {d : List Deferred} (h : FR σ a b t d) (hgl : ∀ g, g < gmax → ∃ p, pl σ g = some p ∧ p.blk = g ∧ p.off = 0) : ∀ x v, a.eval x = some v → VR σ v (evalC t x) := by
  intro x v e
  cases x with
  | tmp i => simp only [AF.eval, getL_eq, Option.some.injEq] at e; subst e; exact getD_VR h.tmps i
  | const u =>
    simp only [AF.eval] at e
    split at e
    · rename_i hc; cases e; exact VR.closed hc
    · cases e
  | global g =>
    simp only [AF.eval] at e
    split at e
    · rename_i hlt
      simp only [Nat.blt_eq] at hlt
      cases e
      obtain ⟨p, h1, h2, h3⟩ := hgl g hlt
      have := VR.ptr (i := 0) h1
      rw [h2, h3] at this
      exact this
    · cases e
  | func f => cases e; exact .func .nil .nil

theorem FR.put {σ : Sg} {a : AF} {b : Frame} {t : Array Value} {d : List Deferred} (h : FR σ a b t d) (dst : Option Tmp) {v v' : Value} (hv : VR σ v v') : FR σ (a.put dst v) b (putA t dst v') d := by
  cases dst with
  | none => exact h
  | some i => exact ⟨h.fn, by simpa [AF.put, putA, setL_eq] using h.tmps.set i hv, h.defs, h.rnd⟩

theorem yielded_eq {σ : Sg} {l : List Value} {t : Array Value} (h : VRs σ l t.toList) (ops : Array Oper) (j : Nat) : yieldedE ops l j = yielded ops t j := by
  unfold yieldedE yielded
  simp only [idxL_eq]
  cases (ops[j]?).bind (·.dst) with
  | none => rfl
  | some i =>
    simp only [Option.bind_some]
    cases hl : l[i]? with
    | none =>
      have := h.getNone hl
      rw [Array.getElem?_toList] at this
      rw [this]
    | some v =>
      obtain ⟨v', hv', hr⟩ := h.get hl
      rw [Array.getElem?_toList] at hv'
      rw [hv']
      cases hr with
      | opq h => cases v' <;> first | rfl | (simp [opqOk] at h)
      | lst h => cases h <;> rfl
      | _ => rfl

theorem wanted_eq {σ : Sg} {l : List Value} {t : Array Value} (h : VRs σ l t.toList) (ops : Array Oper) (o : Oper) : wantedE ops o l = Region.wanted o (yielded ops t) := by
  unfold wantedE Region.wanted
  cases o.guard with
  | none => rfl
  | some g =>
    obtain ⟨j, want⟩ := g
    simp only [yielded_eq h ops j]
    cases yielded ops t j with
    | none => rfl
    | some b => cases b <;> cases want <;> rfl

def KOk (kind : CallKind) (cs : List Frame) : Prop := kind = .normal ∨ (kind = .deferred ∧ ∃ c r, cs = c :: r ∧ c.mode = .returning)

section
variable (P : Program) (w0 : Bs) (ih : Task → AH → Option Out)

def callT (kind : CallKind) (f : FuncId) (args : List Value) : Task :=
  match kind with
  | .deferred => .dcall f args
  | _ => .call f args

def CallOK : Prop := ∀ f args h out kind, ih (callT kind f args) h = some out → ∀ σ w (args' : Array Value) cs, R w0 σ h w → VRs σ args args'.toList → KOk kind cs →
  ∃ v σ' w' v' fr, out.a.tmps = [v] ∧ Ext σ σ' ∧ R w0 σ' out.h w' ∧ VR σ' v v' ∧ Steps P (lone (Frame.enter P f args' kind) cs w) (lone fr cs w') ∧ fr.mode = .returning ∧ fr.defers = [] ∧ fr.kind = kind ∧
    (∃ fn, P.funcs[fr.fn]? = some fn ∧ (results fn fr.tmps).run P w' = .ok v' w') ∧ fr.fn = f ∧ ∃ fn, P.funcs[f]? = some fn ∧ fn.body.isSome = true

def RoundOK : Prop := ∀ l args h out, ih (.round l args) h = some out → ∀ σ w p (args' : Array Value), R w0 σ h w → pl σ l = some p → VRs σ args args'.toList →
  ∃ fnr tm as bd, (Instr.yield p.blk args').run P w = .ok (.round p.blk fnr tm as bd) w ∧ ∀ caller cs, ∃ v σ' w' v', out.a.tmps = [v] ∧ Ext σ σ' ∧ R w0 σ' out.h w' ∧ VR σ' v v' ∧
    Steps P (lone (Frame.round p.blk fnr tm as bd .normal) (caller :: cs) w) (lone (caller.finish v') cs w')

def Arr (m : Machine) (b : Frame) (k : List Item) (cs : List Frame) (e : AExit) (t : Array Value) (d : List Deferred) (w : World) : Prop :=
  match e with
  | .normal => Steps P m (lone (mk b t d k) cs w)
  | .exit id => ∃ todo, exitTo id todo = exitTo id k ∧ Steps P m (lone (mk b t d (.code (.exit id) :: todo)) cs w)
  | .ret => ∃ todo, Steps P m (lone (mk b t d (.code .ret :: todo)) cs w)

def CodeOK : Prop := ∀ c a h out, ih (.code c a) h = some out → ∀ σ w b t d k cs, R w0 σ h w → FR σ a b t d → CsOk b cs →
  ∃ σ' w' t' d', Ext σ σ' ∧ R w0 σ' out.h w' ∧ FR σ' out.a b t' d' ∧ Arr P (lone (mk b t d (.code c :: k)) cs w) b k cs out.e t' d' w'

variable {P w0 ih}

theorem one_some {r : Option Out} {v : Value} {h : AH} (e : one r = some (v, h)) : ∃ out, r = some out ∧ out.a.tmps = [v] ∧ out.h = h := by
  unfold one at e
  split at e
  · cases e; exact ⟨_, rfl, rfl, rfl⟩
  · cases e

theorem stepE_sound (hC : CallOK P w0 ih) (hR : RoundOK P w0 ih) (hN : ∀ (f : FuncId) (fn : Func), P.funcs[f]? = some fn → (fn.name == "runtime.NumGoroutine") = false)
    {o : Oper} {a a' : AF} {h h' : AH} (e : stepE P ih o a h = some (a', h')) {ops : Array Oper} {i : Nat} (ho : ops[i]? = some o) {σ : Sg} {w : World} {b : Frame} {t : Array Value} {d : List Deferred}
    (r : R w0 σ h w) (f : FR σ a b t d) {cs : List Frame} (hcs : CsOk b cs) (hw : Region.wanted o (yielded ops t) = true) (rest : List Nat) (k : List Item) :
    ∃ σ' w' t' d', Ext σ σ' ∧ R w0 σ' h' w' ∧ FR σ' a' b t' d' ∧ Steps P (lone (mk b t d (.inRegion ops (i :: rest) :: k)) cs w) (lone (mk b t' d' (.inRegion ops rest :: k)) cs w') := by
  have hρ := f.eval r.gl
  unfold stepE at e
  split at e
  · rename_i v h1 hop
    cases e
    have hnd : ∀ c, o.op ≠ .defer c := by
      intro c hc; rw [hc] at hop; simp only [opE, Option.map_eq_some_iff] at hop; obtain ⟨_, _, hh⟩ := hop; cases hh
    obtain ⟨σ', w', v', g1, g2, g3, g4⟩ := opE_sound r hN hρ hop
    exact ⟨σ', w', _, d, g1, g2, (f.mono g1).put o.dst g4, .one (sk_value ho hw (.inr hnd) g3)⟩
  · rename_i h1 hop
    cases e
    have hnd : ∀ c, o.op ≠ .defer c := by
      intro c hc; rw [hc] at hop; simp only [opE, Option.map_eq_some_iff] at hop; obtain ⟨_, _, hh⟩ := hop; cases hh
    obtain ⟨w', g2, g3⟩ := opE_sound r hN hρ hop
    exact ⟨σ, w', _, d, Ext.refl σ, g2, f.put o.dst (undef_VR σ), .one (sk_noval ho hw (.inr hnd) g3)⟩
  · rename_i g args h1 hop
    simp only [Option.map_eq_some_iff] at e
    obtain ⟨⟨v, h2⟩, ho1, hh⟩ := e
    cases hh
    have hnd : ∀ c, o.op ≠ .defer c := by
      intro c hc; rw [hc] at hop; simp only [opE, Option.map_eq_some_iff] at hop; obtain ⟨_, _, hh⟩ := hop; cases hh
    obtain ⟨out, hout, hv, rfl⟩ := one_some ho1
    obtain ⟨rfl, args', hva, hrun⟩ := opE_sound r hN hρ hop
    obtain ⟨v2, σ', w', v', fr, k1, k2, k3, k4, k5, k6, k7, k8, ⟨fn1, k9, k10⟩, _, fn, k11, k12⟩ := hC _ _ _ _ .normal hout σ w args' (mk b t d (.inRegion ops (i :: rest) :: k) :: cs) r hva (.inl rfl)
    rw [hv] at k1; cases k1
    have hfin := finish_mk (b := b) (t := t) (d := d) (k := k) ops i rest v'
    rw [ho] at hfin
    simp only [Option.bind_some] at hfin
    refine ⟨σ', w', _, d, k2, k3, (f.mono k2).put o.dst k4, ?_⟩
    rw [← hfin]
    exact .head (sk_enter ho hw (.inr hnd) (hrun fn k11 k12)) (k5.trans (.one (step_leave_returned ⟨k6, k7, k8, fn1, k9, k10⟩)))
  · rename_i l args h1 hop
    simp only [Option.map_eq_some_iff] at e
    obtain ⟨⟨v, h2⟩, ho1, hh⟩ := e
    cases hh
    have hnd : ∀ c, o.op ≠ .defer c := by
      intro c hc; rw [hc] at hop; simp only [opE, Option.map_eq_some_iff] at hop; obtain ⟨_, _, hh⟩ := hop; cases hh
    obtain ⟨out, hout, hv, rfl⟩ := one_some ho1
    obtain ⟨rfl, p, args', hp, hva, hrun⟩ := opE_sound r hN hρ hop
    obtain ⟨fnr, tm, as, bd, hy, hcall⟩ := hR _ _ _ _ hout σ w p args' r hp hva
    obtain ⟨v2, σ', w', v', k1, k2, k3, k4, k5⟩ := hcall (mk b t d (.inRegion ops (i :: rest) :: k)) cs
    rw [hv] at k1; cases k1
    have hfin := finish_mk (b := b) (t := t) (d := d) (k := k) ops i rest v'
    rw [ho] at hfin
    simp only [Option.bind_some] at hfin
    refine ⟨σ', w', _, d, k2, k3, (f.mono k2).put o.dst k4, ?_⟩
    rw [← hfin]
    exact .head (sk_round ho hw (.inr hnd) (hrun.trans hy)) k5
  · rename_i df h1 hop
    split at e
    · rename_i hrn
      cases e
      obtain ⟨rfl, d', hrun, hd⟩ := opE_sound r hN hρ hop
      have hb : b.roundOf = none := by
        have := f.rnd
        cases hx : a.rnd with
        | some _ => rw [hx] at hrn; cases hrn
        | none => rw [hx] at this; cases hy : b.roundOf with
          | none => rfl
          | some _ => rw [hy] at this; exact this.elim
      have f' : FR σ ({ a with defs := df :: a.defs } : AF) b t (d' :: d) := ⟨f.fn, f.tmps, .cons hd f.defs, f.rnd⟩
      exact ⟨σ, w, _, _, Ext.refl σ, r, f'.put o.dst (undef_VR σ), .one (sk_defer ho hw hb hrun)⟩
    · cases e
  · rename_i h1 hop
    split at e
    · rename_i hrn
      cases e
      obtain ⟨rfl, hrun⟩ := opE_sound r hN hρ hop
      have hb : b.roundOf = none := by
        have := f.rnd
        cases hx : a.rnd with
        | some _ => rw [hx] at hrn; cases hrn
        | none => rw [hx] at this; cases hy : b.roundOf with
          | none => rfl
          | some _ => rw [hy] at this; exact this.elim
      exact ⟨σ, w, _, _, Ext.refl σ, r, f.put o.dst .niliface, .one (sk_recover ho hw hb hcs hrun)⟩
    · cases e
  · cases e

theorem opsE_sound (hC : CallOK P w0 ih) (hR : RoundOK P w0 ih) (hN : ∀ (f : FuncId) (fn : Func), P.funcs[f]? = some fn → (fn.name == "runtime.NumGoroutine") = false)
    {ops : Array Oper} {b : Frame} {cs : List Frame} (hcs : CsOk b cs) (k : List Item) : ∀ (l : List Nat) {a a' : AF} {h h' : AH}, opsE P ih ops l a h = some (a', h') → ∀ {σ : Sg} {w : World} {t : Array Value} {d : List Deferred},
    R w0 σ h w → FR σ a b t d → ∃ σ' w' t' d', Ext σ σ' ∧ R w0 σ' h' w' ∧ FR σ' a' b t' d' ∧ Steps P (lone (mk b t d (.inRegion ops l :: k)) cs w) (lone (mk b t' d' k) cs w')
  | [], a, a', h, h', e, σ, w, t, d, r, f => by cases e; exact ⟨σ, w, t, d, Ext.refl σ, r, f, .one sk_region_end⟩
  | i :: rest, a, a', h, h', e, σ, w, t, d, r, f => by
    unfold opsE at e
    split at e
    · rename_i ho
      obtain ⟨σ', w', t', d', g1, g2, g3, g4⟩ := opsE_sound hC hR hN hcs k rest e r f
      refine ⟨σ', w', t', d', g1, g2, g3, .head ?_ g4⟩
      have := sk_op_skip (P := P) (b := b) (t := t) (d := d) (k := k) (cs := cs) (w := w) (ops := ops) (i := i) (rest := rest) (by simp [ho])
      simpa [ho, putA] using this
    · rename_i o ho
      split at e
      · rename_i hw
        rw [wanted_eq f.tmps] at hw
        split at e
        · rename_i a1 h1 hs
          obtain ⟨σ1, w1, t1, d1, g1, g2, g3, g4⟩ := stepE_sound hC hR hN hs ho r f hcs hw rest k
          obtain ⟨σ', w', t', d', j1, j2, j3, j4⟩ := opsE_sound hC hR hN hcs k rest e g2 g3
          exact ⟨σ', w', t', d', g1.trans j1, j2, j3, g4.trans j4⟩
        · cases e
      · rename_i hw
        rw [wanted_eq f.tmps] at hw
        obtain ⟨σ', w', t', d', g1, g2, g3, g4⟩ := opsE_sound hC hR hN hcs k rest e r (f.put o.dst (undef_VR σ))
        refine ⟨σ', w', t', d', g1, g2, g3, .head ?_ g4⟩
        have := sk_op_skip (P := P) (b := b) (t := t) (d := d) (k := k) (cs := cs) (w := w) (ops := ops) (i := i) (rest := rest) (by simpa [ho] using hw)
        simpa [ho] using this

end
end Go.Proofs.YtmcmaklilfgdiaaGreat.Ev
