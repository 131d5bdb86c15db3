/- The evaluator is sound. -/
import Derived.Test.YtmcmaklilfgdiaaGreatEn
namespace Go.Proofs.YtmcmaklilfgdiaaGreat.Ev
open Go Go.RowKit

section
variable {P : Program} {w0 : Bs} {ih : Task → AH → Option Out}

/-- the region that draws its order: what is needed of it -/
def DrawOK (P : Program) (w0 : Bs) (ih : Task → AH → Option Out) : Prop := ∀ (ops : Array Oper) (a : AF) (h : AH) (a' : AF) (h' : AH), drawE P ih ops a h = some (a', h') →
  ∀ (σ : Sg) (w : World) (b : Frame) (t : Array Value) (d : List Deferred) (k : List Item) (cs : List Frame) (n : Nat), R w0 σ h w → FR σ a b t d → CsOk b cs →
    ∃ σ' w' t' d', Ext σ σ' ∧ R w0 σ' h' w' ∧ FR σ' a' b t' d' ∧ Steps P (lone (mk b t d (.inRegion ops (Region.schedule (P.follows .mixedOrders) ops n) :: k)) cs w) (lone (mk b t' d' k) cs w')

theorem range_ok (hC : CallOK P w0 ih) (hN : ∀ (f : FuncId) (fn : Func), P.funcs[f]? = some fn → (fn.name == "runtime.NumGoroutine") = false)
    {f : Operand} {params : Array Tmp} {assign body : Code} {a : AF} {h : AH} {out : Out} (e : stepC P ih (.code (.rangeFunc f params assign body) a) h = some out)
    {σ : Sg} {w : World} {b : Frame} {t : Array Value} {d : List Deferred} {k : List Item} {cs : List Frame} (r : R w0 σ h w) (fr : FR σ a b t d) :
    ∃ σ' w' t' d', Ext σ σ' ∧ R w0 σ' out.h w' ∧ FR σ' out.a b t' d' ∧ Arr P (lone (mk b t d (.code (.rangeFunc f params assign body) :: k)) cs w) b k cs out.e t' d' w' := by
  simp only [stepC] at e
  split at e
  · rename_i g first cap hf
    have hff := fr.eval r.gl _ _ hf
    obtain ⟨first', cap', hfe, hv1, hv2⟩ : ∃ first' cap', evalC t f = .func (.func g) ⟨first'⟩ ⟨cap'⟩ ∧ VRs σ first first' ∧ VRs σ cap cap' := by
      generalize evalC t f = z at hff
      cases hff with
      | func ha hc => exact ⟨_, _, rfl, ha, hc⟩
    -- the loop that is entered
    have enter : ∀ (h1 : AH) (df : Nat) (mark : List ADef) (mark' : List Deferred) (σ1 : Sg) (w1 : World) (pd : Pl), Ext σ σ1 → R w0 σ1 h1 w1 → pl σ1 df = some pd → DRs σ1 mark mark' →
        (Instr.enterLoop b.fn t params assign body b.roundOf).run P w = .ok (w1.heap.size, mark') (w1.alloc (.loop { state := .ready, pending := none, fn := b.fn, tmps := t, params := params, assign := assign, body := body, defers := pd.blk })) →
        enterE ih g first cap a params assign body h1 df mark = some out →
        ∃ σ' w' t' d', Ext σ σ' ∧ R w0 σ' out.h w' ∧ FR σ' out.a b t' d' ∧ Arr P (lone (mk b t d (.code (.rangeFunc f params assign body) :: k)) cs w) b k cs out.e t' d' w' := by
      intro h1 df mark mark' σ1 w1 pd x1 r1 hdf hmark hent e
      unfold enterE at e
      split at e
      · cases e
      · rename_i v h2 ho1
        obtain ⟨o1, hout, hov, rfl⟩ := one_some ho1
        let p : Pl := ⟨w1.heap.size, 0, 0, 0, 0⟩
        have r2 := r1.alloc (.loop { state := .ready, pending := none, fn := b.fn, tmps := t, params := params, assign := assign, body := body, defers := pd.blk })
          (.loop .ready none a.fn a.tmps params.toList assign body df) p rfl ⟨r1.okn, t.toList, pd, (fr.tmps.mono x1).mono (Ext.snoc _ _), Ext.snoc _ _ _ _ hdf, by rw [fr.fn]⟩
        have hpn : pl (σ1 ++ [some p]) h1.n = some p := get_new r1 p
        have x2 : Ext σ (σ1 ++ [some p]) := x1.trans (Ext.snoc _ _)
        have hva : VRs (σ1 ++ [some p]) (first ++ [.func (.yield h1.n) #[] #[]] ++ cap) (((⟨first'⟩ : Array Value) ++ #[Value.func (.yield w1.heap.size) #[] #[]]) ++ ⟨cap'⟩).toList := by
          have : (((⟨first'⟩ : Array Value) ++ #[Value.func (.yield w1.heap.size) #[] #[]]) ++ ⟨cap'⟩).toList = first' ++ [.func (.yield p.blk) ⟨[]⟩ ⟨[]⟩] ++ cap' := by simp [p]
          rw [this]
          exact ((hv1.mono x2).append (.cons (.yield hpn) .nil)).append (hv2.mono x2)
        obtain ⟨v2, σ3, w3, v', f3, k1, k2, k3, k4, k5, k6, k7, k8, ⟨fn1, k9, k10⟩, _, fn2, k11, k12⟩ := hC _ _ _ _ .normal hout _ _ _ (mk b t (mark' ++ d) (.inRangeFunc w1.heap.size :: k) :: cs) r2 hva (.inl rfl)
        have hbn : fn2.body.isNone = false := by cases hx : fn2.body with
          | none => rw [hx] at k12; cases k12
          | some _ => rfl
        have s1 := sk_range (P := P) (b := b) (t := t) (d := d) (k := k) (cs := cs) (w := w) hfe k11 (hN g fn2 k11) hbn hent
        have s2 : Steps P (lone (mk b t d (.code (.rangeFunc f params assign body) :: k)) cs w) (lone (mk b t (mark' ++ d) (.endRangeFunc w1.heap.size :: k)) cs w3) := by
          refine .head s1 (k5.trans (.one ?_))
          rw [← finish_range (v := v')]
          exact step_leave_returned ⟨k6, k7, k8, fn1, k9, k10⟩
        have hp3 := k2 _ _ hpn
        split at e
        · rename_i st pend fnl tml ps as bd dfl hg
          obtain ⟨tm', pdf, m1, m2, m3, m4⟩ := k3.loop hg hp3
          split at e
          · cases e
          · rename_i hst
            have hbs : ((({ state := st, pending := pend, fn := fnl, tmps := ⟨tm'⟩, params := ⟨ps⟩, assign := as, body := bd, defers := pdf.blk } : Loop).state) == .busy) = false := by
              cases st <;> first | rfl | exact absurd rfl hst
            have s3 := s2.trans (.one (sk_endrange (b := b) (t := t) (d := mark' ++ d) (k := k) (cs := cs) m3 hbs))
            have x3 : Ext σ σ3 := x2.trans k2
            have hdrs : ∀ {l : List ADef} {l' : List Deferred}, DRs σ3 l l' → DRs σ3 (l ++ a.defs) (l' ++ d) := by
              intro l l' hl
              induction hl with
              | nil => exact fr.defs.mono x3
              | cons h1 _ ih => exact .cons h1 ih
            have fr' : FR σ3 ⟨a.fn, a.tmps, mark ++ a.defs, a.rnd⟩ b t (mark' ++ d) :=
              ⟨fr.fn, fr.tmps.mono x3, hdrs (hmark.mono ((Ext.snoc _ _).trans k2)), fr.rnd.mono x3⟩
            split at e
            · cases e; exact ⟨σ3, _, t, _, x3, m4 .exhausted _, fr', s3⟩
            · cases e; exact ⟨σ3, _, t, _, x3, m4 .exhausted _, fr', k, s3⟩
            · cases e; exact ⟨σ3, _, t, _, x3, m4 .exhausted _, fr', k, rfl, s3⟩
            · cases e
        · cases e
    -- what is around
    cases hrn : a.rnd with
    | none =>
      simp only [hrn] at e
      have hb : b.roundOf = none := by
        have := fr.rnd
        rw [hrn] at this
        cases hy : b.roundOf with
        | none => rfl
        | some _ => rw [hy] at this; exact this.elim
      let p : Pl := ⟨w.heap.size, 0, 0, 0, 0⟩
      have r1 := r.alloc (.deferred (some [])) (.defs true) p rfl ⟨r.okn, rfl⟩
      have hpn : pl (σ ++ [some p]) h.n = some p := get_new r p
      refine enter (h.push (.defs true)) h.n [.collected h.n] [{ target := .collected p.blk, args := #[] }] (σ ++ [some p]) _ p (Ext.snoc _ _) r1 hpn (.cons ⟨p, hpn, rfl⟩ .nil) ?_ e
      simp only [Instr.enterLoop, hb, Sem.run_bind, run_newObj, Result.andThen_ok, Sem.run_pure, World.alloc_eq]
      rfl
    | some l =>
      simp only [hrn] at e
      have hrr := fr.rnd
      rw [hrn] at hrr
      cases hg : h.get l with
      | none => simp [hg] at e
      | some blk =>
        rw [hg] at e
        cases blk with
        | loop st pd fn tm ps as bd df =>
          simp only at e
          cases hy : b.roundOf with
          | none => rw [hy] at hrr; exact hrr.elim
          | some blk =>
            rw [hy] at hrr
            obtain ⟨p, hp, rfl⟩ := hrr
            obtain ⟨tm', pdf, m1, m2, m3, _⟩ := r.loop hg hp
            refine enter h df [] [] σ w pdf (Ext.refl σ) r m2 .nil ?_ e
            simp only [Instr.enterLoop, hy, Sem.run_bind, run_getLoop' m3, run_newObj, Result.andThen_ok, Sem.run_pure, World.alloc_eq]
        | _ => simp at e
  · cases e

theorem code_ok (hK : CodeOK P w0 ih) (hC : CallOK P w0 ih) (hR : RoundOK P w0 ih) (hN : ∀ (f : FuncId) (fn : Func), P.funcs[f]? = some fn → (fn.name == "runtime.NumGoroutine") = false) (hD : DrawOK P w0 ih) : CodeOK P w0 (stepC P ih) := by
  intro c a h out e σ w b t d k cs r fr hcs
  cases c with
  | skip =>
    simp only [stepC] at e; cases e
    exact ⟨σ, w, t, d, Ext.refl σ, r, fr, .one sk_skip⟩
  | label l =>
    simp only [stepC] at e; cases e
    exact ⟨σ, w, t, d, Ext.refl σ, r, fr, .one sk_label⟩
  | region id ops draw =>
    simp only [stepC] at e
    split at e
    · rename_i a' h' hx
      cases e
      cases draw with
      | true =>
        simp only [if_true] at hx
        obtain ⟨σ', w', t', d', g1, g2, g3, g4⟩ := hD ops a h _ _ hx σ w.drew b t d k cs (w.tape w.drawn (.order b.fn id)) r.drew fr hcs
        exact ⟨σ', w', t', d', g1, g2, g3, .head sk_region_draw g4⟩
      | false =>
        simp only [Bool.false_eq_true, if_false] at hx
        obtain ⟨σ', w', t', d', g1, g2, g3, g4⟩ := opsE_sound hC hR hN hcs k _ hx r fr
        exact ⟨σ', w', t', d', g1, g2, g3, .head sk_region g4⟩
    · cases e
  | seq x y =>
    simp only [stepC] at e
    split at e
    · rename_i a' h' hx
      obtain ⟨σ1, w1, t1, d1, g1, g2, g3, g4⟩ := hK _ _ _ _ hx σ w b t d (.code y :: k) cs r fr hcs
      obtain ⟨σ2, w2, t2, d2, j1, j2, j3, j4⟩ := hK _ _ _ _ e σ1 w1 b t1 d1 k cs g2 g3 hcs
      refine ⟨σ2, w2, t2, d2, g1.trans j1, j2, j3, ?_⟩
      have s0 : Steps P (lone (mk b t d (.code (.seq x y) :: k)) cs w) (lone (mk b t1 d1 (.code y :: k)) cs w1) := .head sk_seq g4
      cases hoe : out.e with
      | normal => rw [hoe] at j4; exact s0.trans j4
      | ret => rw [hoe] at j4; obtain ⟨todo, hs⟩ := j4; exact ⟨todo, s0.trans hs⟩
      | exit id => rw [hoe] at j4; obtain ⟨todo, he, hs⟩ := j4; exact ⟨todo, he, s0.trans hs⟩
    · rename_i hx
      obtain ⟨σ1, w1, t1, d1, g1, g2, g3, g4⟩ := hK _ _ _ _ e σ w b t d (.code y :: k) cs r fr hcs
      refine ⟨σ1, w1, t1, d1, g1, g2, g3, ?_⟩
      cases hoe : out.e with
      | normal =>
        exfalso
        obtain ⟨oe, oa, oh⟩ := out
        simp only at hoe; subst hoe
        exact hx _ _ e
      | ret => rw [hoe] at g4; obtain ⟨todo, hs⟩ := g4; exact ⟨todo, .head sk_seq hs⟩
      | exit id => rw [hoe] at g4; obtain ⟨todo, he, hs⟩ := g4; exact ⟨todo, he, .head sk_seq hs⟩
  | cond c x y =>
    simp only [stepC] at e
    split at e
    · rename_i v hc
      have hv := fr.eval r.gl _ _ hc
      have hcv : evalC t c = .bool v := by generalize evalC t c = z at hv; cases hv; rfl
      obtain ⟨σ1, w1, t1, d1, g1, g2, g3, g4⟩ := hK _ _ _ _ e σ w b t d k cs r fr hcs
      refine ⟨σ1, w1, t1, d1, g1, g2, g3, ?_⟩
      cases hoe : out.e with
      | normal => rw [hoe] at g4; exact .head (sk_cond hcv) g4
      | ret => rw [hoe] at g4; obtain ⟨todo, hs⟩ := g4; exact ⟨todo, .head (sk_cond hcv) hs⟩
      | exit id => rw [hoe] at g4; obtain ⟨todo, he, hs⟩ := g4; exact ⟨todo, he, .head (sk_cond hcv) hs⟩
    · cases e
  | block id body =>
    simp only [stepC] at e
    split at e
    · rename_i id' a' h' hx
      cases e
      obtain ⟨σ1, w1, t1, d1, g1, g2, g3, todo, he, hs⟩ := hK _ _ _ _ hx σ w b t d (.inBlock id :: k) cs r fr hcs
      refine ⟨σ1, w1, t1, d1, g1, g2, g3, ?_⟩
      by_cases hid : id' = id
      · subst hid
        have hb : Nat.beq id' id' = true := by simp
        simp only [hb, if_true]
        exact .head sk_block (hs.trans (.one (sk_exit (by rw [he]; simp [exitTo]))))
      · have hb : Nat.beq id' id = false := by
          cases hx : Nat.beq id' id with
          | false => rfl
          | true => exact absurd (Nat.eq_of_beq_eq_true hx) hid
        simp only [hb, Bool.false_eq_true, if_false]
        refine ⟨todo, ?_, .head sk_block hs⟩
        rw [he]
        have : (id == id') = false := by simp; exact fun hh => hid hh.symm
        simp [exitTo, this]
    · rename_i hx
      obtain ⟨σ1, w1, t1, d1, g1, g2, g3, g4⟩ := hK _ _ _ _ e σ w b t d (.inBlock id :: k) cs r fr hcs
      refine ⟨σ1, w1, t1, d1, g1, g2, g3, ?_⟩
      cases hoe : out.e with
      | normal => rw [hoe] at g4; exact .head sk_block (Steps.trans g4 (.one sk_inBlock))
      | ret => rw [hoe] at g4; obtain ⟨todo, hs⟩ := g4; exact ⟨todo, .head sk_block hs⟩
      | exit id' =>
        exfalso
        obtain ⟨oe, oa, oh⟩ := out
        simp only at hoe; subst hoe
        exact hx _ _ _ e
  | loop body =>
    simp only [stepC] at e
    split at e
    · rename_i a' h' hx
      obtain ⟨σ1, w1, t1, d1, g1, g2, g3, g4⟩ := hK _ _ _ _ hx σ w b t d (.inLoop body :: k) cs r fr hcs
      obtain ⟨σ2, w2, t2, d2, j1, j2, j3, j4⟩ := hK _ _ _ _ e σ1 w1 b t1 d1 k cs g2 g3 hcs
      refine ⟨σ2, w2, t2, d2, g1.trans j1, j2, j3, ?_⟩
      have sw : ∀ m', lone (mk b t1 d1 (.code (.loop body) :: k)) cs w1 ≠ m' → Steps P (lone (mk b t1 d1 (.code (.loop body) :: k)) cs w1) m' → Steps P (lone (mk b t d (.code (.loop body) :: k)) cs w) m' := by
        intro m' hne hs
        have s0 : Steps P (lone (mk b t d (.code (.loop body) :: k)) cs w) (lone (mk b t1 d1 (.code body :: .inLoop body :: k)) cs w1) := .head sk_loop (Steps.trans g4 (.one sk_inLoop))
        refine s0.trans ?_
        obtain ⟨n, hn⟩ := hs
        cases n with
        | zero => simp only [runN, Stepped.next.injEq] at hn; exact absurd hn hne
        | succ n =>
          simp only [runN, sk_loop] at hn
          exact ⟨n, hn⟩
      have ne : ∀ t2 d2 w2 (l : List Item), (.code (.loop body) :: k) ≠ l → lone (mk b t1 d1 (.code (.loop body) :: k)) cs w1 ≠ lone (mk b t2 d2 l) cs w2 := by
        intro t2 d2 w2 l hl hh
        have := congrArg (fun m : Machine => (m.gs[0]?).map fun g => g.frame.todo) hh
        simp only [lone, mk, List.getElem?_toArray, List.getElem?_cons_zero, Option.map_some, Option.some.injEq] at this
        exact hl this
      cases hoe : out.e with
      | normal => rw [hoe] at j4; exact sw _ (ne _ _ _ _ (by intro hh; exact absurd (congrArg List.length hh) (by simp))) j4
      | ret => rw [hoe] at j4; obtain ⟨todo, hs⟩ := j4; exact ⟨todo, sw _ (ne _ _ _ _ (by intro hh; injection hh with hh; injection hh with hh; cases hh)) hs⟩
      | exit id => rw [hoe] at j4; obtain ⟨todo, he, hs⟩ := j4; exact ⟨todo, he, sw _ (ne _ _ _ _ (by intro hh; injection hh with hh; injection hh with hh; cases hh)) hs⟩
    · rename_i hx
      obtain ⟨σ1, w1, t1, d1, g1, g2, g3, g4⟩ := hK _ _ _ _ e σ w b t d (.inLoop body :: k) cs r fr hcs
      refine ⟨σ1, w1, t1, d1, g1, g2, g3, ?_⟩
      cases hoe : out.e with
      | normal =>
        exfalso
        obtain ⟨oe, oa, oh⟩ := out
        simp only at hoe; subst hoe
        exact hx _ _ e
      | ret => rw [hoe] at g4; obtain ⟨todo, hs⟩ := g4; exact ⟨todo, .head sk_loop hs⟩
      | exit id => rw [hoe] at g4; obtain ⟨todo, he, hs⟩ := g4; exact ⟨todo, he, .head sk_loop hs⟩
  | exit id =>
    simp only [stepC] at e; cases e
    exact ⟨σ, w, t, d, Ext.refl σ, r, fr, k, rfl, .refl _ _⟩
  | ret =>
    simp only [stepC] at e; cases e
    exact ⟨σ, w, t, d, Ext.refl σ, r, fr, k, .refl _ _⟩
  | rangeFunc f params assign body => exact range_ok hC hN e r fr
  | scope body => simp only [stepC] at e; cases e
  | goto l => simp only [stepC] at e; cases e
  | refuse why => simp only [stepC] at e; cases e

/-- what is known of calls is so -/
def OraOK (P : Program) (w0 : Bs) (ora : Ora) : Prop := ∀ f args h out, ora f args h = some out → ∀ σ w (args' : Array Value) cs, R w0 σ h w → VRs σ args args'.toList →
  ∃ v σ' w' v' fr, out.a.tmps = [v] ∧ Ext σ σ' ∧ R w0 σ' out.h w' ∧ VR σ' v v' ∧ Steps P (lone (Frame.enter P f args' .normal) cs w) (lone fr cs w') ∧ fr.mode = .returning ∧ fr.defers = [] ∧ fr.kind = .normal ∧
    (∃ fn, P.funcs[fr.fn]? = some fn ∧ (results fn fr.tmps).run P w' = .ok v' w') ∧ fr.fn = f ∧ ∃ fn, P.funcs[f]? = some fn ∧ fn.body.isSome = true

theorem noOra_ok (w0 : Bs) : OraOK P w0 noOra := fun f args h out e => by cases e

theorem callO_ok {ora : Ora} (hO : OraOK P w0 ora) (hC : CallOK P w0 (stepC P ih)) : CallOK P w0 (stepO P ora ih) := by
  intro f args h out kind e σ w args' cs r hv hk
  cases kind with
  | deferred => exact hC f args h out .deferred e σ w args' cs r hv hk
  | normal =>
    have e : stepO P ora ih (.call f args) h = some out := e
    unfold stepO at e
    simp only at e
    split at e
    · rename_i o ho
      cases e
      exact hO f args h _ ho σ w args' cs r hv
    · exact hC f args h out .normal e σ w args' cs r hv hk
  | _ => rcases hk with hk | ⟨hk, _⟩ <;> cases hk

theorem codeO_ok {ora : Ora} (hC : CodeOK P w0 (stepC P ih)) : CodeOK P w0 (stepO P ora ih) := fun c a h out e => hC c a h out e
theorem roundO_ok {ora : Ora} (hC : RoundOK P w0 (stepC P ih)) : RoundOK P w0 (stepO P ora ih) := fun l args h out e => hC l args h out e

/-- The evaluator is sound. -/
theorem EO_ok (hN : ∀ (f : FuncId) (fn : Func), P.funcs[f]? = some fn → (fn.name == "runtime.NumGoroutine") = false) {ora : Ora} {w0 : Bs} (hO : ∀ U, OraOK P (w0.at U) ora)
    (hD : ∀ ih, (∀ U, CallOK P (w0.at U) ih) → (∀ U, RoundOK P (w0.at U) ih) → ∀ U, DrawOK P (w0.at U) ih) :
    ∀ n, ∀ U, CodeOK P (w0.at U) (EO P ora n) ∧ CallOK P (w0.at U) (EO P ora n) ∧ RoundOK P (w0.at U) (EO P ora n)
  | 0, U => by
    refine ⟨fun c a h out e => ?_, fun f args h out kind e => ?_, fun l args h out e => ?_⟩ <;> simp [EO] at e
  | n + 1, U => by
    have IH := EO_ok hN hO hD n
    obtain ⟨hK, hC, hR⟩ := IH U
    exact ⟨codeO_ok (code_ok hK hC hR hN (hD _ (fun U => (IH U).2.1) (fun U => (IH U).2.2) U)), callO_ok (hO U) (call_ok hK hC hN), roundO_ok (round_ok hK)⟩

/-- The evaluator's memory where only the package-level variables lie. -/
def AH.start (gs : List ABlk) : AH := ⟨gs.length, gs.reverse⟩

def plStart (n : Nat) (κ : Nat → Nat → Option Value) : Sg := ⟨(List.range n).map fun g => some ⟨g, 0, 0, 0, 0⟩, κ⟩

theorem AH.get_start (gs : List ABlk) (g : Nat) : (AH.start gs).get g = gs[g]? := by
  unfold AH.get AH.start
  simp only [Nat.blt_eq]
  split
  · rename_i h
    rw [List.getElem?_reverse (by omega)]
    congr 1; omega
  · rename_i h
    rw [List.getElem?_eq_none (by omega)]

theorem pl_start {n g : Nat} {κ : Nat → Nat → Option Value} : pl (plStart n κ) g = if g < n then some ⟨g, 0, 0, 0, 0⟩ else none := by
  unfold pl plStart
  split
  · rename_i p hp
    rw [List.getElem?_map, Option.map_eq_some_iff] at hp
    obtain ⟨k, hk, hh⟩ := hp
    have hlt := (List.getElem?_eq_some_iff.1 hk).1
    simp at hlt
    rw [List.getElem?_range hlt] at hk
    cases hk; cases hh
    rw [if_pos hlt]
  · rename_i hp
    split
    · rename_i hlt
      exact (hp ⟨g, 0, 0, 0, 0⟩ (by rw [List.getElem?_map, List.getElem?_range hlt]; rfl)).elim
    · rfl

theorem R.start (w : World) {κ : Nat → Nat → Option Value} (hκ : ∀ (b i : Nat) (v : Value), κ b i = some v → w.cell? ⟨b, i, none⟩ = some v) (gs : List ABlk) (hl : gs.length = gmax)
    (hb : ∀ (g : Nat) (b : ABlk), gs[g]? = some b → b.live = false ∧ BR (Bs.fresh w κ).ok (plStart gmax κ) w.heap[g]? b ⟨g, 0, 0, 0, 0⟩) : R (Bs.fresh w κ) (plStart gmax κ) (AH.start gs) w where
  len := by simp [AH.start]
  sl := by simp [AH.start, plStart, Sg.length, hl]
  br := by
    intro id b p e hp
    rw [AH.get_start] at e
    rw [pl_start] at hp
    split at hp
    · cases hp; exact (hb id b e).2
    · cases hp
  un := fun _ h => h.elim
  inj := by
    intro i j bi bj pi pj ei ej li lj
    rw [AH.get_start] at ei
    rw [(hb i bi ei).1] at li; cases li
  below := ⟨rfl, rfl, rfl, Nat.le_refl _, fun _ _ => rfl⟩
  gl := by
    intro g hg
    exact ⟨⟨g, 0, 0, 0, 0⟩, by rw [pl_start, if_pos hg], rfl, rfl⟩
  lone := by
    intro i j n sz es bj pi pj ei ej lj
    rw [AH.get_start] at ej
    rw [(hb j bj ej).1] at lj; cases lj
  ltwo := by
    intro i j n sz n' sz' es es' pi pj ei ej hi hj hr
    rw [pl_start] at hi
    split at hi
    · cases hi; exact absurd rfl hr
    · cases hi
  keep := hκ
  kown := fun b i v hv => by
    refine ⟨fun id bk p e lb => ?_, fun id n sz es p e hp hr => ?_⟩
    · rw [AH.get_start] at e
      rw [(hb id bk e).1] at lb; cases lb
    · rw [pl_start] at hp
      split at hp
      · cases hp; exact absurd rfl hr
      · cases hp
  kpn := fun b i v hv => .inl hv

theorem BelX.below {w w' : World} {κ : Nat → Nat → Option Value} {U : Nat → Prop} (h : BelX ((Bs.fresh w κ).at U) w') : Below w.heap.size w w' :=
  ⟨h.os, h.tape, h.output, h.size, fun k hk => h.block k (fun (hh : w.heap.size ≤ k) => by omega)⟩

/-- does a call come to true? -/
def isTrue (r : Option Out) : Bool :=
  match r with
  | some ⟨_, ⟨_, [.bool true], _, _⟩, _⟩ => true
  | _ => false

/-- A call that the evaluator takes to true, over what is known of calls: the machine does, and leaves all that was there as it was. -/
theorem calls_true (hN : ∀ (f : FuncId) (fn : Func), P.funcs[f]? = some fn → (fn.name == "runtime.NumGoroutine") = false) {ora : Ora} {w : World} {κ : Nat → Nat → Option Value} (hκ : ∀ (b i : Nat) (v : Value), κ b i = some v → w.cell? ⟨b, i, none⟩ = some v) (hO : ∀ U, OraOK P ((Bs.fresh w κ).at U) ora)
    (hD : ∀ ih, (∀ U, CallOK P ((Bs.fresh w κ).at U) ih) → (∀ U, RoundOK P ((Bs.fresh w κ).at U) ih) → ∀ U, DrawOK P ((Bs.fresh w κ).at U) ih) {n : Nat} {f : FuncId} {gs : List ABlk} (hl : gs.length = gmax)
    (hb : ∀ (g : Nat) (b : ABlk), gs[g]? = some b → b.live = false ∧ BR (Bs.fresh w κ).ok (plStart gmax κ) w.heap[g]? b ⟨g, 0, 0, 0, 0⟩) {args : List Value} {args' : Array Value} (hv : VRs (plStart gmax κ) args args'.toList)
    (e : isTrue (EO P ora n (.call f args) (AH.start gs)) = true) :
    Calls P f args' w fun en w' => en = .returned (.bool true) ∧ Below w.heap.size w w' := by
  unfold isTrue at e
  split at e
  · rename_i e1 fn1 defs1 rnd1 h1 hx
    intro cs
    obtain ⟨v, σ', w', v', fr, k1, k2, k3, k4, k5, k6, k7, k8, ⟨fn, k9, k10⟩, k11, _⟩ := (EO_ok hN hO hD n (fun _ => False)).2.1 f args (AH.start gs) _ .normal hx (plStart gmax κ) w args' cs (R.start w hκ gs hl hb) hv (.inl rfl)
    simp only [List.cons.injEq, and_true] at k1
    subst k1
    cases k4
    exact ⟨.returned (.bool true), w', fr, ⟨rfl, k3.below.below⟩, k5, k11, k6, k7, k8, fn, k9, k10⟩
  · cases e

/-- a call that is known to come to a value, and to leave all that was there as it was -/
theorem ora_of {w0 : Bs} {f : FuncId} {h : AH} {σ : Sg} {w1 : World} {args' : Array Value} {v v' : Value} (r : R w0 σ h w1) (hv : VR σ v v')
    (hb : ∃ fn, P.funcs[f]? = some fn ∧ fn.body.isSome = true)
    (hc : Calls P f args' w1 fun e w' => e = .returned v' ∧ Below w1.heap.size w1 w') (cs : List Frame) :
    ∃ u σ' w' u' fr, [v] = [u] ∧ Ext σ σ' ∧ R w0 σ' h w' ∧ VR σ' u u' ∧ Steps P (lone (Frame.enter P f args' .normal) cs w1) (lone fr cs w') ∧ fr.mode = .returning ∧ fr.defers = [] ∧ fr.kind = .normal ∧
      (∃ fn, P.funcs[fr.fn]? = some fn ∧ (results fn fr.tmps).run P w' = .ok u' w') ∧ fr.fn = f ∧ ∃ fn, P.funcs[f]? = some fn ∧ fn.body.isSome = true := by
  obtain ⟨e, w', fr, ⟨rfl, hbel⟩, hcomes, hfn, hm, hd, hk, fn, hf, hres⟩ := hc cs
  have r' : R w0 σ h w' := r.world ⟨hbel.os.trans r.below.os, hbel.tape.trans r.below.tape, hbel.output.trans r.below.output, Nat.le_trans r.below.size hbel.size, fun k hk => by
    rw [hbel.block k (Nat.lt_of_lt_of_le (Bs.lt hk) r.below.size)]; exact r.below.block k hk⟩ hbel.block
  exact ⟨v, σ, w', v', fr, rfl, Ext.refl σ, r', hv, hcomes, hm, hd, hk, ⟨fn, hf, hres⟩, hfn, hb⟩

end
end Go.Proofs.YtmcmaklilfgdiaaGreat.Ev
