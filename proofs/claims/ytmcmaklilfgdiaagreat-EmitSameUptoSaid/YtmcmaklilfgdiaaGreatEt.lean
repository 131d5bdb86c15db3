/- A region that draws its order: any order comes to what the evaluator says. -/
import Derived.Test.YtmcmaklilfgdiaaGreatEs
namespace Go.Proofs.YtmcmaklilfgdiaaGreat.Ev
open Go Go.RowKit

def dsOf (ops : Array Oper) (ord : List Nat) (q : Nat) : Option Tmp := ((ord[q]?).bind (ops[·]?)).bind (·.dst)

def doneOf (ord : List Nat) (listed : Array Bool) (q : Nat) : Bool :=
  match ord[q]? with
  | some i => listed.getD i false
  | none => false

def FillAt (ops : Array Oper) (ord : List Nat) (A : Nat → AF) (q : Nat) : Prop := ∃ i o, ord[q]? = some i ∧ ops[i]? = some o ∧ fillOp o.op = true ∧ wantedE ops o (A q).tmps = true

def HeavyAt (P : Program) (ops : Array Oper) (ord : List Nat) (q : Nat) : Prop := ∃ i o, ord[q]? = some i ∧ ops[i]? = some o ∧ heavyOp P o.op = true

/-- the blocks that the machine has not made yet -/
def UnOf (w0 : Bs) (ops : Array Oper) (ord : List Nat) (A : Nat → AF) (H : Nat → AH) (D : Nat → Bool) (Q : Nat) (id : Nat) : Prop :=
  w0.un id ∨ ∃ q, q < Q ∧ FillAt ops ord A q ∧ D q = false ∧ id = (H q).n

section
variable {P : Program} {ih : Task → AH → Option Out} {ops : Array Oper} {ord : List Nat} {A : Nat → AF} {H : Nat → AH} {V : Nat → Value} {w0 : Bs}

theorem stepE_sound' (hC : CallOK P w0 ih) (hR : RoundOK P w0 ih) (hN : ∀ (f : FuncId) (fn : Func), P.funcs[f]? = some fn → (fn.name == "runtime.NumGoroutine") = false)
    {o : Oper} {a a' : AF} {h h' : AH} (e : stepE P ih o a h = some (a', h')) {ops : Array Oper} {i : Nat} (ho : ops[i]? = some o) {σ : Sg} {w : World} {b : Frame} {t : Array Value} {d : List Deferred}
    (r : R w0 σ h w) (f : FR σ a b t d) {cs : List Frame} (hcs : CsOk b cs) (hw : Region.wanted o (yielded ops t) = true) (hnd : ∀ c, o.op ≠ .defer c) (rest : List Nat) (k : List Item) :
    ∃ σ' w' t' d', Ext σ σ' ∧ R w0 σ' h' w' ∧ FR σ' a' b t' d' ∧ d' = d ∧ Steps P (lone (mk b t d (.inRegion ops (i :: rest) :: k)) cs w) (lone (mk b t' d' (.inRegion ops rest :: k)) cs w') := by
  have hρ := f.eval r.gl
  unfold stepE at e
  split at e
  · rename_i v h1 hop
    cases e
    obtain ⟨σ', w', v', g1, g2, g3, g4⟩ := opE_sound r hN hρ hop
    exact ⟨σ', w', _, d, g1, g2, (f.mono g1).put o.dst g4, rfl, .one (sk_value ho hw (.inr hnd) g3)⟩
  · rename_i h1 hop
    cases e
    obtain ⟨w', g2, g3⟩ := opE_sound r hN hρ hop
    exact ⟨σ, w', _, d, Ext.refl σ, g2, f.put o.dst (undef_VR σ), rfl, .one (sk_noval ho hw (.inr hnd) g3)⟩
  · rename_i g args h1 hop
    simp only [Option.map_eq_some_iff] at e
    obtain ⟨⟨v, h2⟩, ho1, hh⟩ := e
    cases hh
    obtain ⟨out, hout, hv, rfl⟩ := one_some ho1
    obtain ⟨rfl, args', hva, hrun⟩ := opE_sound r hN hρ hop
    obtain ⟨v2, σ', w', v', fr, k1, k2, k3, k4, k5, k6, k7, k8, ⟨fn1, k9, k10⟩, _, fn, k11, k12⟩ := hC _ _ _ _ .normal hout σ w args' (mk b t d (.inRegion ops (i :: rest) :: k) :: cs) r hva (.inl rfl)
    rw [hv] at k1; cases k1
    have hfin := finish_mk (b := b) (t := t) (d := d) (k := k) ops i rest v'
    rw [ho] at hfin
    simp only [Option.bind_some] at hfin
    refine ⟨σ', w', _, d, k2, k3, (f.mono k2).put o.dst k4, rfl, ?_⟩
    rw [← hfin]
    exact .head (sk_enter ho hw (.inr hnd) (hrun fn k11 k12)) (k5.trans (.one (step_leave_returned ⟨k6, k7, k8, fn1, k9, k10⟩)))
  · rename_i l args h1 hop
    simp only [Option.map_eq_some_iff] at e
    obtain ⟨⟨v, h2⟩, ho1, hh⟩ := e
    cases hh
    obtain ⟨out, hout, hv, rfl⟩ := one_some ho1
    obtain ⟨rfl, p, args', hp, hva, hrun⟩ := opE_sound r hN hρ hop
    obtain ⟨fnr, tm, as, bd, hy, hcall⟩ := hR _ _ _ _ hout σ w p args' r hp hva
    obtain ⟨v2, σ', w', v', k1, k2, k3, k4, k5⟩ := hcall (mk b t d (.inRegion ops (i :: rest) :: k)) cs
    rw [hv] at k1; cases k1
    have hfin := finish_mk (b := b) (t := t) (d := d) (k := k) ops i rest v'
    rw [ho] at hfin
    simp only [Option.bind_some] at hfin
    refine ⟨σ', w', _, d, k2, k3, (f.mono k2).put o.dst k4, rfl, ?_⟩
    rw [← hfin]
    exact .head (sk_round ho hw (.inr hnd) (hrun.trans hy)) k5
  · rename_i df h1 hop
    exact (opE_nodefer hnd hop).elim
  · rename_i h1 hop
    split at e
    · rename_i hrn
      cases e
      obtain ⟨rfl, hrun⟩ := opE_sound r hN hρ hop
      have hb : b.roundOf = none := by
        have := f.rnd
        cases hx : a.rnd with
        | some _ => rw [hx] at hrn; cases hrn
        | none => rw [hx] at this; cases hy : b.roundOf with
          | none => rfl
          | some _ => rw [hy] at this; exact this.elim
      exact ⟨σ, w, _, _, Ext.refl σ, r, f.put o.dst .niliface, rfl, .one (sk_recover ho hw hb hcs hrun)⟩
    · cases e
  · cases e

/-- one operation comes to a value, and the memory to another, wherever some blocks have not been made yet -/
def StepOK (P : Program) (w0 : Bs) (o : Oper) (a : AF) (h : AH) (v : Value) (h' : AH) : Prop :=
  ∀ (U : Nat → Prop) (σ : Sg) (w : World) (b : Frame) (t : Array Value) (d : List Deferred) (cs : List Frame) (ops : Array Oper) (i : Nat) (rest : List Nat) (k : List Item), ops[i]? = some o →
    R (w0.at U) σ h w → FR σ a b t d → CsOk b cs → Region.wanted o (yielded ops t) = true →
    ∃ σ' w' t', Ext σ σ' ∧ R (w0.at U) σ' h' w' ∧ FR σ' (a.put o.dst v) b t' d ∧ Steps P (lone (mk b t d (.inRegion ops (i :: rest) :: k)) cs w) (lone (mk b t' d (.inRegion ops rest :: k)) cs w')

theorem stepOK_of (hC : ∀ U, CallOK P (w0.at U) ih) (hR : ∀ U, RoundOK P (w0.at U) ih) (hN : ∀ (f : FuncId) (fn : Func), P.funcs[f]? = some fn → (fn.name == "runtime.NumGoroutine") = false)
    {o : Oper} {a : AF} {h h' : AH} {v : Value} (e : stepE P ih o a h = some (a.put o.dst v, h')) (hnd : ∀ c, o.op ≠ .defer c) : StepOK P w0 o a h v h' := by
  intro U σ w b t d cs ops i rest k ho r f hcs hw
  obtain ⟨σ', w', t', d', g1, g2, g3, g4, g5⟩ := stepE_sound' (hC U) (hR U) hN e ho r f hcs hw hnd rest k
  subst g4
  exact ⟨σ', w', t', g1, g2, g3, g5⟩

/-- what the trace of a region says -/
structure Tq (P : Program) (w0 : Bs) (ops : Array Oper) (ord : List Nat) (A : Nat → AF) (H : Nat → AH) (V : Nat → Value) : Prop where
  sta : Sta P ops ord
  put : ∀ q i o, q < ops.size → ord[q]? = some i → ops[i]? = some o → A (q + 1) = (A q).put o.dst (V q)
  no : ∀ q i o, q < ops.size → ord[q]? = some i → ops[i]? = some o → wantedE ops o (A q).tmps = false → V q = undef ∧ H (q + 1) = H q
  yes : ∀ q i o, q < ops.size → ord[q]? = some i → ops[i]? = some o → wantedE ops o (A q).tmps = true → ∀ a2 : AF, a2.rnd = (A q).rnd → (∀ x ∈ o.op.operands, a2.eval x = (A q).eval x) →
    StepOK P w0 o a2 (H q) (V q) (H (q + 1))
  light : ∀ q i o, q < ops.size → ord[q]? = some i → ops[i]? = some o → wantedE ops o (A q).tmps = true → lightOp P o.op = true → H (q + 1) = H q ∧
    ∀ j, q < j → j ≤ ops.size → openE P ops ord q j = true → ∀ a2 : AF, a2.rnd = (A q).rnd → (∀ x ∈ o.op.operands, a2.eval x = (A q).eval x) → StepOK P w0 o a2 (H j) (V q) (H j)
  fill : ∀ q i o, q < ops.size → ord[q]? = some i → ops[i]? = some o → wantedE ops o (A q).tmps = true → fillOp o.op = true → (∃ vs esz, H (q + 1) = (H q).push (.cells vs esz)) ∧ (H 0).n ≤ (H q).n ∧
    ∀ j, q < j → j ≤ ops.size → (H q).n < (H j).n ∧ (openE P ops ord q j = true → ∃ vs esz, (H (q + 1)).get (H q).n = some (.cells vs esz) ∧ (H j).get (H q).n = some (.cells vs esz))
  fillv : ∀ q i o, q < ops.size → ord[q]? = some i → ops[i]? = some o → wantedE ops o (A q).tmps = true → fillOp o.op = true → ∀ a2 : AF, a2.rnd = (A q).rnd → (∀ x ∈ o.op.operands, a2.eval x = (A q).eval x) →
    ∃ v vs esz, opE P a2.eval o.type o.op (H q) = some (.value v, (H q).push (.cells vs esz)) ∧ a2.put o.dst (V q) = a2.put o.dst v ∧ H (q + 1) = (H q).push (.cells vs esz)

theorem Tr.toTq (T : Tr P ih ops ord A H V) (hC : ∀ U, CallOK P (w0.at U) ih) (hR : ∀ U, RoundOK P (w0.at U) ih) (hN : ∀ (f : FuncId) (fn : Func), P.funcs[f]? = some fn → (fn.name == "runtime.NumGoroutine") = false) :
    Tq P w0 ops ord A H V where
  sta := T.sta
  put := T.put
  no := T.no
  yes := fun q i o hq hi ho hw a2 hr hx => by
    refine stepOK_of hC hR hN (T.yes q i o hq hi ho hw a2 hr hx) ?_
    obtain ⟨i', o', g1, g2, g3, _⟩ := T.sta.op q hq
    rw [hi] at g1; cases g1
    rw [ho] at g2; cases g2
    exact g3
  light := fun q i o hq hi ho hw hl => ⟨(T.light q i o hq hi ho hw hl).1, fun j hj hjn hop a2 hr hx => by
    refine stepOK_of hC hR hN ((T.light q i o hq hi ho hw hl).2 j hj hjn hop a2 hr hx) ?_
    obtain ⟨i', o', g1, g2, g3, _⟩ := T.sta.op q hq
    rw [hi] at g1; cases g1
    rw [ho] at g2; cases g2
    exact g3⟩
  fill := T.fill
  fillv := fun q i o hq hi ho hw hf a2 hr hx => by
    obtain ⟨v, vs, esz, k1, k2⟩ := fill_one hf (T.yes q i o hq hi ho hw a2 hr hx)
    simp only [Prod.mk.injEq] at k2
    exact ⟨v, vs, esz, k1, k2.1, k2.2⟩

def aX (ops : Array Oper) (ord : List Nat) (A : Nat → AF) (V : Nat → Value) (D : Nat → Bool) (m : Nat) : AF := { A 0 with tmps := tm (A 0).tmps (dsOf ops ord) V D m }

theorem Tq.A_eq (T : Tq P w0 ops ord A H V) : ∀ q, q ≤ ops.size → A q = aX ops ord A V (fun _ => true) q
  | 0, _ => rfl
  | q + 1, hq => by
    obtain ⟨i, o, g1, g2, _⟩ := T.sta.op q (by omega)
    rw [T.put q i o (by omega) g1 g2, T.A_eq q (by omega), put_eq]
    simp only [aX, tm, if_true]
    have : dsOf ops ord q = o.dst := by simp [dsOf, g1, g2]
    rw [this]

/-- on to the next place that acts -/
theorem Tq.adv (T : Tq P w0 ops ord A H V) {D : Nat → Bool} : ∀ (f m : Nat), m + f = ops.size → (∀ q, m ≤ q → q < ops.size → D q = false) → ∀ {σ : Sg} {w : World},
    R (w0.at (UnOf w0 ops ord A H D m)) σ (H m) w → ∃ Q, m ≤ Q ∧ Q ≤ ops.size ∧ (Q < ops.size → HeavyAt P ops ord Q) ∧ (∀ q, m ≤ q → q < Q → ¬ HeavyAt P ops ord q) ∧ (∀ j, m ≤ j → j ≤ Q → (H j).bs.length = (H j).n) ∧
      ∃ σ', Ext σ σ' ∧ R (w0.at (UnOf w0 ops ord A H D Q)) σ' (H Q) w
  | 0, m, hm, _, σ, w, r => ⟨m, Nat.le_refl _, by omega, fun h => by omega, fun q a b => by omega, fun j a b => by obtain rfl : j = m := by omega
                                                                                                                   exact r.len, σ, Ext.refl σ, r⟩
  | f + 1, m, hm, hD, σ, w, r => by
    obtain ⟨i, o, g1, g2, _⟩ := T.sta.op m (by omega)
    by_cases hh : HeavyAt P ops ord m
    · exact ⟨m, Nat.le_refl _, by omega, fun _ => hh, fun q a b => by omega, fun j a b => by obtain rfl : j = m := by omega
                                                                                             exact r.len, σ, Ext.refl σ, r⟩
    · have hnh : heavyOp P o.op = false := by
        cases hx : heavyOp P o.op with
        | false => rfl
        | true => exact absurd ⟨i, o, g1, g2, hx⟩ hh
      have key : ∃ σ', Ext σ σ' ∧ R (w0.at (UnOf w0 ops ord A H D (m + 1))) σ' (H (m + 1)) w := by
        by_cases hf : FillAt ops ord A m
        · obtain ⟨i', o', k1, k2, k3, k4⟩ := hf
          obtain ⟨⟨vs, esz, hp⟩, _, _⟩ := T.fill m i' o' (by omega) k1 k2 k4 k3
          rw [hp]
          refine ⟨_, Ext.snoc' σ none, (r.pushUn (.cells vs esz)).weaken ?_⟩
          rintro id (hid | ⟨q, q1, q2, q3, q4⟩)
          · exact .inl (.inl hid)
          · by_cases hqm : q = m
            · subst hqm; exact .inr q4
            · exact .inl (.inr ⟨q, by omega, q2, q3, q4⟩)
        · have hH : H (m + 1) = H m := by
            cases hw : wantedE ops o (A m).tmps with
            | false => exact (T.no m i o (by omega) g1 g2 hw).2
            | true =>
              have hnf : fillOp o.op = false := by
                cases hx : fillOp o.op with
                | false => rfl
                | true => exact absurd ⟨i, o, g1, g2, hx, hw⟩ hf
              have hl : lightOp P o.op = true := by
                unfold heavyOp at hnh
                rw [hnf] at hnh
                simpa using hnh
              exact (T.light m i o (by omega) g1 g2 hw hl).1
          rw [hH]
          refine ⟨σ, Ext.refl σ, r.weaken ?_⟩
          rintro id (hid | ⟨q, q1, q2, q3, q4⟩)
          · exact .inl hid
          · by_cases hqm : q = m
            · subst hqm; exact absurd q2 hf
            · exact .inr ⟨q, by omega, q2, q3, q4⟩
      obtain ⟨σ1, e1, r1⟩ := key
      obtain ⟨Q, a1, a2, a3, a4, a5, σ2, e2, r2⟩ := T.adv f (m + 1) (by omega) (fun q a b => hD q (by omega) b) r1
      refine ⟨Q, by omega, a2, a3, fun q b1 b2 => ?_, fun j b1 b2 => ?_, σ2, e1.trans e2, r2⟩
      · by_cases hq : q = m
        · subst hq; exact hh
        · exact a4 q (by omega) b2
      · by_cases hj : j = m
        · subst hj; exact r.len
        · exact a5 j (by omega) b2

structure Inv (P : Program) (ops : Array Oper) (ord : List Nat) (A : Nat → AF) (H : Nat → AH) (V : Nat → Value) (w0 : Bs) (b : Frame) (d : List Deferred)
    (listed : Array Bool) (σ : Sg) (w : World) (t : Array Value) (Q : Nat) : Prop where
  size : listed.size = ops.size
  cl : ∀ j o, ops[j]? = some o → listed.getD j false = true → ∀ e ∈ o.after, Region.binds .any e = true → listed.getD e.on false = true
  le : Q ≤ ops.size
  hv : Q < ops.size → HeavyAt P ops ord Q
  up : ∀ q, q < ops.size → doneOf ord listed q = true → q < Q
  dn : ∀ q, q < Q → HeavyAt P ops ord q → doneOf ord listed q = true
  lens : ∀ j, j ≤ Q → (H j).bs.length = (H j).n
  r : R (w0.at (UnOf w0 ops ord A H (doneOf ord listed) Q)) σ (H Q) w
  f : FR σ (aX ops ord A V (doneOf ord listed) ops.size) b t d

theorem getD_set (l : Array Bool) (i j : Nat) (hi : i < l.size) : (l.setIfInBounds i true).getD j false = if j = i then true else l.getD j false := by
  simp only [Array.getD_eq_getD_getElem?, Array.getElem?_setIfInBounds]
  by_cases h : i = j
  · subst h; simp [hi]
  · rw [if_neg h, if_neg (fun hh => h (Eq.symm hh))]

/-- One more is done. -/
theorem draw_step (T : Tq P w0 ops ord A H V) (hun : ∀ k, w0.un k → k < (H 0).n) {b : Frame} {d : List Deferred} {cs : List Frame} (hcs : CsOk b cs) {listed : Array Bool} {σ : Sg} {w : World} {t : Array Value} {Q : Nat}
    (I : Inv P ops ord A H V w0 b d listed σ w t Q) {i : Nat} (hi : i ∈ Region.ready .any ops listed) (rest : List Nat) (k : List Item) :
    ∃ σ' w' t' Q', Ext σ σ' ∧ Inv P ops ord A H V w0 b d (listed.setIfInBounds i true) σ' w' t' Q' ∧ Steps P (lone (mk b t d (.inRegion ops (i :: rest) :: k)) cs w) (lone (mk b t' d (.inRegion ops rest :: k)) cs w') := by
  obtain ⟨hl, o, ho, hedges⟩ := mem_ready.1 hi
  have hin : i < ops.size := by
    rcases Nat.lt_or_ge i ops.size with h | h
    · exact h
    · rw [Array.getElem?_eq_none h] at ho; cases ho
  have hil : listed.getD i false = false := by
    rw [Array.getD_eq_getD_getElem?, Array.getElem?_eq_getElem (by rw [I.size]; exact hin)] at hl ⊢
    exact hl
  -- its place
  obtain ⟨q0, hq0, hoq⟩ : ∃ q0, q0 < ops.size ∧ ord[q0]? = some i := by
    obtain ⟨q0, hq⟩ := List.mem_iff_getElem?.1 (T.sta.cov i hin)
    refine ⟨q0, ?_, hq⟩
    rcases Nat.lt_or_ge q0 ord.length with h | h
    · rw [← T.sta.len]; exact h
    · rw [List.getElem?_eq_none h] at hq; cases hq
  let D := doneOf ord listed
  let D' := doneOf ord (listed.setIfInBounds i true)
  have hD0 : D q0 = false := by show doneOf ord listed q0 = false; unfold doneOf; rw [hoq]; exact hil
  have hD1 : D' q0 = true := by
    show doneOf ord _ q0 = true; unfold doneOf; rw [hoq]; show (listed.setIfInBounds i true).getD i false = true
    rw [getD_set _ _ _ (by rw [I.size]; exact hin), if_pos rfl]
  have hDo : ∀ q, q ≠ q0 → D' q = D q := by
    intro q hq
    show doneOf ord _ q = doneOf ord listed q
    unfold doneOf
    cases hj : ord[q]? with
    | none => rfl
    | some j =>
      simp only
      rw [getD_set _ _ _ (by rw [I.size]; exact hin), if_neg]
      intro hh
      subst hh
      have hqn : q < ops.size := by
        rcases Nat.lt_or_ge q ord.length with h | h
        · rw [← T.sta.len]; exact h
        · rw [List.getElem?_eq_none h] at hj; cases hj
      rcases Nat.lt_or_ge q q0 with h | h
      · exact (T.sta.pair q q0 j j o o h hq0 hj hoq ho ho).1 rfl
      · exact (T.sta.pair q0 q j j o o (by omega) hqn hoq hj ho ho).1 rfl
  have hopq : ∀ q, q < ops.size → ∃ j oj, ord[q]? = some j ∧ ops[j]? = some oj := fun q hq => by
    obtain ⟨j, oj, g1, g2, _⟩ := T.sta.op q hq
    exact ⟨j, oj, g1, g2⟩
  have hDj : ∀ q j, ord[q]? = some j → D q = listed.getD j false := fun q j hj => by
    show doneOf ord listed q = _; unfold doneOf; rw [hj]
  -- ahead of it: done; behind it: not done
  have ahead : ∀ q j oj, q < ops.size → ord[q]? = some j → ops[j]? = some oj → bef ops ops.size j i = true → D q = true := by
    intro q j oj hq hj hoj hb
    rw [hDj q j hj]
    exact bef_listed I.cl _ j i o ho hedges hb
  have behind : ∀ q j oj, q < ops.size → ord[q]? = some j → ops[j]? = some oj → bef ops ops.size i j = true → D q = false := by
    intro q j oj hq hj hoj hb
    rw [hDj q j hj]
    cases hx : listed.getD j false with
    | false => rfl
    | true =>
      have := bef_listed I.cl _ i j oj hoj (I.cl j oj hoj hx) hb
      rw [hil] at this; cases this
  let ax := aX ops ord A V D ops.size
  have hds : dsOf ops ord q0 = o.dst := by simp [dsOf, hoq, ho]
  have hdsq : ∀ q j oj, ord[q]? = some j → ops[j]? = some oj → dsOf ops ord q = oj.dst := by intro q j oj h1 h2; simp [dsOf, h1, h2]
  have tiedD : ∀ (x y : Oper) (s : Tmp), x.dst = some s → s ∈ looks ops y → tied P ops x y = true := by
    intro x y s h1 h2
    unfold tied
    simp only [h1, Bool.or_eq_true, List.contains_iff_mem]
    exact .inl (.inl (.inl h2))
  have tiedL : ∀ (x y : Oper) (s : Tmp), y.dst = some s → s ∈ looks ops x → tied P ops x y = true := by
    intro x y s h1 h2
    unfold tied
    simp only [h1, Bool.or_eq_true, List.contains_iff_mem]
    exact .inl (.inr h2)
  have tiedS : ∀ (x y : Oper) (s : Tmp), x.dst = some s → y.dst = some s → tied P ops x y = true := by
    intro x y s h1 h2
    unfold tied
    simp [h1, h2]
  have tiedH : ∀ (x y : Oper), heavyOp P x.op = true → heavyOp P y.op = true → tied P ops x y = true := by
    intro x y h1 h2
    unfold tied
    simp [h1, h2]
  have alike : Alike ops o (A q0) ax := by
    refine ⟨by rw [T.A_eq q0 (by omega)]; rfl, fun s hs => ?_⟩
    rw [T.A_eq q0 (by omega)]
    show (tm (A 0).tmps (dsOf ops ord) V D ops.size)[s]? = (tm (A 0).tmps (dsOf ops ord) V (fun _ => true) q0)[s]?
    rw [← tm_stop q0 ops.size (by omega)]
    refine tm_agree s _ fun q hq hd => ?_
    obtain ⟨j, oj, g1, g2⟩ := hopq q hq
    rw [hdsq q j oj g1 g2] at hd
    by_cases h1 : q < q0
    · rw [ahead q j oj hq g1 g2 ((T.sta.pair q q0 j i oj o h1 hq0 g1 hoq g2 ho).2.1 (tiedD oj o s hd hs))]
      simp [h1]
    · by_cases h2 : q = q0
      · subst h2; rw [hD0]; simp
      · rw [behind q j oj hq g1 g2 ((T.sta.pair q0 q i j o oj (by omega) hq hoq g1 ho g2).2.1 (tiedL o oj s hd hs))]
        simp [h1]
  have hput : ax.put o.dst (V q0) = aX ops ord A V D' ops.size := by
    rw [put_eq]
    show ({ A 0 with tmps := putL (tm (A 0).tmps (dsOf ops ord) V D ops.size) o.dst (V q0) } : AF) = { A 0 with tmps := tm (A 0).tmps (dsOf ops ord) V D' ops.size }
    rw [tm_add (q0 := q0) hD0 hD1 hDo ops.size hq0, hds]
    intro q s h1 h2 h3 h4
    obtain ⟨j, oj, g1, g2⟩ := hopq q h2
    rw [hdsq q j oj g1 g2] at h4
    rw [hds] at h3
    exact behind q j oj h2 g1 g2 ((T.sta.pair q0 q i j o oj h1 h2 hoq g1 ho g2).2.1 (tiedS o oj s h3 h4))
  have hrnd : ax.rnd = (A q0).rnd := alike.1
  have heval : ∀ x ∈ o.op.operands, ax.eval x = (A q0).eval x := alike.eval
  have hwq : wantedE ops o (A q0).tmps = Region.wanted o (yielded ops t) := by rw [← alike.wanted]; exact wanted_eq I.f.tmps ops o
  -- the new list
  have hsz' : (listed.setIfInBounds i true).size = ops.size := by rw [Array.size_setIfInBounds, I.size]
  have hcl' : ∀ j oj, ops[j]? = some oj → (listed.setIfInBounds i true).getD j false = true → ∀ e ∈ oj.after, Region.binds .any e = true → (listed.setIfInBounds i true).getD e.on false = true := by
    intro j oj hoj hj e he hb
    rw [getD_set _ _ _ (by rw [I.size]; exact hin)] at hj ⊢
    split
    · rfl
    · split at hj
      · rename_i hji; subst hji; rw [ho] at hoj; cases hoj; exact hedges e he hb
      · exact I.cl j oj hoj hj e he hb
  have unsub : ∀ id Q2, Q2 ≤ Q ∨ (Q2 ≤ Q + 1 ∧ q0 = Q) → UnOf w0 ops ord A H D' Q2 id → UnOf w0 ops ord A H D Q id := by
    rintro id Q2 hQ2 (hid | ⟨q, q1, q2, q3, q4⟩)
    · exact .inl hid
    · have hne : q ≠ q0 := by intro hh; rw [hh, hD1] at q3; cases q3
      exact .inr ⟨q, by omega, q2, by rw [← hDo q hne]; exact q3, q4⟩
  -- where it stands
  have hpos : (heavyOp P o.op = true → q0 = Q) ∧ (heavyOp P o.op = false → q0 < Q) := by
    refine ⟨fun hh => ?_, fun hh => ?_⟩
    · rcases Nat.lt_trichotomy q0 Q with h | h | h
      · have := I.dn q0 h ⟨i, o, hoq, ho, hh⟩
        have h0 : doneOf ord listed q0 = false := hD0
        rw [h0] at this; cases this
      · exact h
      · obtain ⟨j, oj, g1, g2, g3⟩ := I.hv (by omega)
        have := I.up Q (by omega) (ahead Q j oj (by omega) g1 g2 ((T.sta.pair Q q0 j i oj o h hq0 g1 hoq g2 ho).2.1 (tiedH oj o g3 hh)))
        omega
    · rcases Nat.lt_trichotomy q0 Q with h | h | h
      · exact h
      · obtain ⟨j, oj, g1, g2, g3⟩ := I.hv (by omega)
        rw [← h, hoq] at g1; cases g1
        rw [ho] at g2; cases g2
        rw [hh] at g3; cases g3
      · obtain ⟨j, oj, g1, g2, g3⟩ := I.hv (by omega)
        have := I.up Q (by omega) (ahead Q j oj (by omega) g1 g2 ((T.sta.pair Q q0 j i oj o h hq0 g1 hoq g2 ho).2.2 g3 hh))
        omega
  have hopen : q0 < Q → openE P ops ord q0 Q = true := by
    intro hlt
    unfold openE
    rw [List.all_eq_true]
    intro x hx
    rw [List.mem_range] at hx
    simp only [Bool.or_eq_true, Nat.blt_eq]
    by_cases hxq : x < q0
    · exact .inl hxq
    · right
      obtain ⟨j, oj, g1, g2⟩ := hopq x (by have := I.le; omega)
      rw [hoq, g1]
      simp only [Bool.or_eq_true, Bool.not_eq_true']
      cases hh : heavyAt P ops j with
      | false => exact .inl rfl
      | true =>
        right
        cases hb : bef ops ops.size i j with
        | false => rfl
        | true =>
          unfold heavyAt at hh
          rw [g2] at hh
          have h1 := I.dn x hx ⟨j, oj, g1, g2, hh⟩
          have h2 := behind x j oj (by have := I.le; omega) g1 g2 hb
          have h3 : doneOf ord listed x = false := h2
          rw [h3] at h1; cases h1
  -- what does not act: the place that acts stays
  have stay : ∀ {σ' : Sg} {w' : World} {t' : Array Value}, heavyOp P o.op = false → R (w0.at (UnOf w0 ops ord A H D' Q)) σ' (H Q) w' → FR σ' (aX ops ord A V D' ops.size) b t' d →
      Inv P ops ord A H V w0 b d (listed.setIfInBounds i true) σ' w' t' Q := by
    intro σ' w' t' hh r' f'
    refine ⟨hsz', hcl', I.le, I.hv, fun q hq hd => ?_, fun q hq hv => ?_, I.lens, r', f'⟩
    · by_cases hqq : q = q0
      · subst hqq; exact hpos.2 hh
      · have h1 : D' q = true := hd
        rw [hDo q hqq] at h1
        exact I.up q hq h1
    · by_cases hqq : q = q0
      · subst hqq; exact hD1
      · have h1 : D q = true := I.dn q hq hv
        rw [← hDo q hqq] at h1; exact h1
  -- what acts: on to the next place
  have go : ∀ {σ' : Sg} {w' : World} {t' : Array Value}, heavyOp P o.op = true → R (w0.at (UnOf w0 ops ord A H D' (Q + 1))) σ' (H (Q + 1)) w' → FR σ' (aX ops ord A V D' ops.size) b t' d →
      ∃ σ2 Q2, Ext σ' σ2 ∧ Inv P ops ord A H V w0 b d (listed.setIfInBounds i true) σ2 w' t' Q2 := by
    intro σ' w' t' hh r' f'
    have hq := hpos.1 hh
    subst hq
    have hD'up : ∀ q, q0 + 1 ≤ q → q < ops.size → D' q = false := by
      intro q h1 h2
      rw [hDo q (by omega)]
      cases hx : D q with
      | false => rfl
      | true => have := I.up q h2 hx; omega
    obtain ⟨Q2, a1, a2, a3, a4, a5, σ2, e2, r2⟩ := T.adv (D := D') (ops.size - (q0 + 1)) (q0 + 1) (by omega) hD'up r'
    refine ⟨σ2, Q2, e2, ⟨hsz', hcl', a2, a3, fun q hq hd => ?_, fun q hq hv => ?_, fun j hj => ?_, r2, f'.mono e2⟩⟩
    · by_cases hqq : q < q0 + 1
      · omega
      · have h1 := hD'up q (by omega) hq
        have h2 : D' q = true := hd
        rw [h1] at h2; cases h2
    · by_cases hqq : q = q0
      · subst hqq; exact hD1
      · by_cases hlt : q < q0
        · have h1 : D q = true := I.dn q hlt hv
          rw [← hDo q hqq] at h1; exact h1
        · exact absurd hv (a4 q (by omega) hq)
    · by_cases hlt : j ≤ q0
      · exact I.lens j hlt
      · exact a5 j (by omega) hj
  cases hw : wantedE ops o (A q0).tmps with
  | false =>
    obtain ⟨n1, n2⟩ := T.no q0 i o hq0 hoq ho hw
    have hst : step P (lone (mk b t d (.inRegion ops (i :: rest) :: k)) cs w) = .next (lone (mk b (putA t o.dst undef) d (.inRegion ops rest :: k)) cs w) := by
      have := sk_op_skip (P := P) (b := b) (t := t) (d := d) (k := k) (cs := cs) (w := w) (ops := ops) (i := i) (rest := rest) (by rw [ho]; rw [hwq] at hw; simpa using hw)
      simpa [ho] using this
    have f1 : FR σ (aX ops ord A V D' ops.size) b (putA t o.dst undef) d := by
      rw [← hput, n1]; exact I.f.put o.dst (undef_VR σ)
    cases hh : heavyOp P o.op with
    | false => exact ⟨σ, w, _, Q, Ext.refl σ, stay hh (I.r.weaken fun id hid => unsub id Q (.inl (Nat.le_refl _)) hid) f1, .one hst⟩
    | true =>
      have hq := hpos.1 hh
      have hHQ : H (Q + 1) = H Q := by rw [← hq]; exact n2
      obtain ⟨σ2, Q2, e2, I2⟩ := go (σ' := σ) (w' := w) (t' := putA t o.dst undef) hh (by rw [hHQ]; exact I.r.weaken fun id hid => unsub id (Q + 1) (.inr ⟨Nat.le_refl _, hq⟩) hid) f1
      exact ⟨σ2, w, _, Q2, e2, I2, .one hst⟩
  | true =>
    have hw' : Region.wanted o (yielded ops t) = true := by rw [← hwq]; exact hw
    have hy := T.yes q0 i o hq0 hoq ho hw ax hrnd heval
    have hnd : ∀ c, o.op ≠ .defer c := by
      obtain ⟨i', o', g1, g2, g3, _⟩ := T.sta.op q0 hq0
      rw [hoq] at g1; cases g1
      rw [ho] at g2; cases g2
      exact g3
    have sound : ∀ {Q1 : Nat}, StepOK P w0 o ax (H Q) (V q0) (H Q1) → ∃ σ' w' t', Ext σ σ' ∧ R (w0.at (UnOf w0 ops ord A H D Q)) σ' (H Q1) w' ∧ FR σ' (aX ops ord A V D' ops.size) b t' d ∧
        Steps P (lone (mk b t d (.inRegion ops (i :: rest) :: k)) cs w) (lone (mk b t' d (.inRegion ops rest :: k)) cs w') := by
      intro Q1 hs
      obtain ⟨σ', w', t', g1, g2, g3, g4⟩ := hs _ σ w b t d cs ops i rest k ho I.r I.f hcs hw'
      rw [hput] at g3
      exact ⟨σ', w', t', g1, g2, g3, g4⟩
    cases hh : heavyOp P o.op with
    | true =>
      have hq := hpos.1 hh
      subst hq
      obtain ⟨σ', w', t', g1, g2, g3, g4⟩ := sound hy
      obtain ⟨σ2, Q2, e2, I2⟩ := go hh (g2.weaken fun id hid => unsub id (q0 + 1) (.inr ⟨Nat.le_refl _, rfl⟩) hid) g3
      exact ⟨σ2, w', t', Q2, g1.trans e2, I2, g4⟩
    | false =>
      have hlt := hpos.2 hh
      cases hlo : lightOp P o.op with
      | true =>
        have hs := (T.light q0 i o hq0 hoq ho hw hlo).2 Q hlt I.le (hopen hlt) ax hrnd heval
        obtain ⟨σ', w', t', g1, g2, g3, g4⟩ := sound hs
        exact ⟨σ', w', t', Q, g1, stay hh (g2.weaken fun id hid => unsub id Q (.inl (Nat.le_refl _)) hid) g3, g4⟩
      | false =>
        have hfo : fillOp o.op = true := by
          unfold heavyOp at hh
          rw [hlo] at hh
          simpa using hh
        obtain ⟨_, hn0, hj⟩ := T.fill q0 i o hq0 hoq ho hw hfo
        obtain ⟨v, vs, esz, k1, k2, k3⟩ := T.fillv q0 i o hq0 hoq ho hw hfo ax hrnd heval
        obtain ⟨v1, vs1, esz1, T1, vs', v', m1, m2, m3, m4, m5⟩ := opE_fill (σ := σ) (ρ' := evalC t) hfo k1 (I.f.eval I.r.gl) w
        cases m1
        have hlenq := I.lens q0 (by omega)
        have hgq : ((H q0).push (.cells vs1 esz1)).get (H q0).n = some (.cells vs1 esz1) := by rw [AH.get_push _ hlenq, if_pos rfl]
        obtain ⟨hltn, hcont⟩ := hj Q hlt I.le
        obtain ⟨vs2, esz2, c1, c2⟩ := hcont (hopen hlt)
        rw [k3, m2, hgq] at c1
        cases c1
        have hfa : FillAt ops ord A q0 := ⟨i, o, hoq, ho, hfo, hw⟩
        obtain ⟨p, p1, p2, p3, p4, p5⟩ := I.r.mat (id := (H q0).n) (vs' := vs') (.inr ⟨q0, hlt, hfa, hD0, rfl⟩) c2 m3 T1 (U := UnOf w0 ops ord A H D' Q) (by
          rintro id hid
          refine ⟨unsub id Q (.inl (Nat.le_refl _)) hid, ?_⟩
          rcases hid with hid | ⟨q, q1, ⟨i2, o2, r1, r2, r3, r4⟩, q3, q4⟩
          · have := hun id hid; omega
          · have hne : q ≠ q0 := by intro hh; rw [hh, hD1] at q3; cases q3
            rcases Nat.lt_or_ge q q0 with hlt2 | hge
            · have := ((T.fill q i2 o2 (by omega) r1 r2 r4 r3).2.2 q0 hlt2 (by omega)).1
              omega
            · have := (hj q (by omega) (by have := I.le; omega)).1
              omega)
        refine ⟨_, _, _, Q, p3, stay hh p5 ?_, .one (sk_value ho hw' (.inr hnd) m4)⟩
        rw [← hput, k2]
        exact (FR.mono p3 I.f).put o.dst (m5 _ p p4 p1 p2)

theorem cnt_mono {p p' : Nat → Bool} (hs : ∀ x, p' x = true → p x = true) {l : List Nat} {x : Nat} {n : Nat} (hx : x ∈ l) (h1 : p x = true) (h2 : p' x = false) (hn : (l.filter p).length ≤ n + 1) : (l.filter p').length ≤ n := by
  have := cnt_lt hs l x hx h1 h2
  omega

/-- All of them, in any order. -/
theorem draw_go (T : Tq P w0 ops ord A H V) (hun : ∀ k, w0.un k → k < (H 0).n) {b : Frame} {d : List Deferred} {cs : List Frame} (hcs : CsOk b cs) (k : List Item) : ∀ (fuel n : Nat) {listed : Array Bool} {σ : Sg} {w : World} {t : Array Value} {Q : Nat},
    Inv P ops ord A H V w0 b d listed σ w t Q → ((List.range ops.size).filter fun i => !listed.getD i false).length ≤ fuel →
    ∃ σ' w' t', Ext σ σ' ∧ R w0 σ' (H ops.size) w' ∧ FR σ' (A ops.size) b t' d ∧ Steps P (lone (mk b t d (.inRegion ops (Region.linearise.go .any ops fuel n listed []) :: k)) cs w) (lone (mk b t' d k) cs w') := by
  have fin : ∀ {listed : Array Bool} {σ : Sg} {w : World} {t : Array Value} {Q : Nat}, Inv P ops ord A H V w0 b d listed σ w t Q → Region.ready .any ops listed = [] →
      ∃ σ' w' t', Ext σ σ' ∧ R w0 σ' (H ops.size) w' ∧ FR σ' (A ops.size) b t' d ∧ Steps P (lone (mk b t d (.inRegion ops [] :: k)) cs w) (lone (mk b t' d k) cs w') := by
    intro listed σ w t Q I hr
    have all : ∀ m, ∀ q, q < m → q < ops.size → doneOf ord listed q = true := by
      intro m
      induction m with
      | zero => intro q h; omega
      | succ m ihm =>
        intro q hq hqn
        by_cases hlt : q < m
        · exact ihm q hlt hqn
        · obtain rfl : q = m := by omega
          obtain ⟨i, o, g1, g2, _, g4⟩ := T.sta.op q hqn
          cases hd : doneOf ord listed q with
          | true => rfl
          | false =>
            have hi : i ∈ Region.ready .any ops listed := by
              refine mem_ready.2 ⟨?_, o, g2, fun e he hb => ?_⟩
              · unfold doneOf at hd
                rw [g1] at hd
                have hin : i < ops.size := by
                  rcases Nat.lt_or_ge i ops.size with h | h
                  · exact h
                  · rw [Array.getElem?_eq_none h] at g2; cases g2
                simp only at hd
                rw [Array.getD_eq_getD_getElem?, Array.getElem?_eq_getElem (by rw [I.size]; exact hin)] at hd ⊢
                exact hd
              · obtain ⟨p, p1, p2⟩ := g4 e he hb
                have := ihm p p1 (by omega)
                unfold doneOf at this
                rw [p2] at this
                exact this
            rw [hr] at hi; cases hi
    have hQ : Q = ops.size := by
      rcases Nat.lt_or_ge Q ops.size with h | h
      · have := I.up Q h (all (Q + 1) Q (by omega) h); omega
      · have := I.le; omega
    subst hQ
    refine ⟨σ, w, t, Ext.refl σ, ?_, ?_, .one sk_region_end⟩
    · have := I.r.weaken (U := w0.un) (fun id hid => .inl hid)
      exact this
    · have e : tm (A 0).tmps (dsOf ops ord) V (doneOf ord listed) ops.size = tm (A 0).tmps (dsOf ops ord) V (fun _ => true) ops.size := tm_congr _ fun q hq => all (q + 1) q (by omega) hq
      rw [T.A_eq ops.size (Nat.le_refl _)]
      unfold aX
      rw [← e]
      exact I.f
  intro fuel
  induction fuel with
  | zero =>
    intro n listed σ w t Q I hc
    have hr : Region.ready .any ops listed = [] := by
      rw [List.eq_nil_iff_forall_not_mem]
      intro i hi
      obtain ⟨h1, o, h2, _⟩ := mem_ready.1 hi
      have hin : i < ops.size := by
        rcases Nat.lt_or_ge i ops.size with h | h
        · exact h
        · rw [Array.getElem?_eq_none h] at h2; cases h2
      have : i ∈ (List.range ops.size).filter fun i => !listed.getD i false := by
        rw [List.mem_filter, List.mem_range]
        refine ⟨hin, ?_⟩
        rw [Array.getD_eq_getD_getElem?, Array.getElem?_eq_getElem (by rw [I.size]; exact hin)] at h1 ⊢
        simp only [Option.getD_some] at h1 ⊢
        rw [h1]; rfl
      have h0 := List.length_eq_zero_iff.1 (Nat.le_zero.1 hc)
      rw [h0] at this
      cases this
    simp only [Region.linearise.go, List.reverse_nil]
    exact fin I hr
  | succ fuel ihf =>
    intro n listed σ w t Q I hc
    simp only [Region.linearise.go]
    change ∃ σ' w' t', Ext σ σ' ∧ R w0 σ' (H ops.size) w' ∧ FR σ' (A ops.size) b t' d ∧ Steps P (lone (mk b t d (.inRegion ops (match (Region.ready .any ops listed)[n % (Region.ready .any ops listed).length]? with
      | some i => Region.linearise.go .any ops fuel (n / (Region.ready .any ops listed).length) (listed.setIfInBounds i true) [i]
      | none => [].reverse) :: k)) cs w) (lone (mk b t' d k) cs w')
    cases hi : (Region.ready .any ops listed)[n % (Region.ready .any ops listed).length]? with
    | none =>
      have hnil : Region.ready .any ops listed = [] := by
        cases hr : Region.ready .any ops listed with
        | nil => rfl
        | cons x xs =>
          rw [hr] at hi
          have hlt : n % (x :: xs).length < (x :: xs).length := Nat.mod_lt _ (by simp)
          simp at hi
          simp at hlt
          omega
      simp only [List.reverse_nil]
      exact fin I hnil
    | some i =>
      simp only []
      rw [linearise_go_acc, List.reverse_singleton, List.singleton_append]
      have hmem := List.mem_of_getElem? hi
      obtain ⟨σ1, w1, t1, Q1, e1, I1, s1⟩ := draw_step T hun hcs I hmem (Region.linearise.go .any ops fuel (n / (Region.ready .any ops listed).length) (listed.setIfInBounds i true) []) k
      have hin : i < ops.size := by
        obtain ⟨h1, o, h2, _⟩ := mem_ready.1 hmem
        rcases Nat.lt_or_ge i ops.size with h | h
        · exact h
        · rw [Array.getElem?_eq_none h] at h2; cases h2
      have hil : listed.getD i false = false := by
        obtain ⟨h1, _⟩ := mem_ready.1 hmem
        rw [Array.getD_eq_getD_getElem?, Array.getElem?_eq_getElem (by rw [I.size]; exact hin)] at h1 ⊢
        exact h1
      obtain ⟨σ2, w2, t2, e2, r2, f2, s2⟩ := ihf (n / (Region.ready .any ops listed).length) I1 (cnt_mono (p := fun i => !listed.getD i false) (x := i) (fun x hx => by
          rw [getD_set _ _ _ (by rw [I.size]; exact hin)] at hx
          split at hx
          · cases hx
          · exact hx) (List.mem_range.2 hin) (by rw [hil]; rfl) (by rw [getD_set _ _ _ (by rw [I.size]; exact hin), if_pos rfl]; rfl) hc)
      exact ⟨σ2, w2, t2, e1.trans e2, r2, f2, s1.trans s2⟩

/-- a region that draws its order, over what its trace says -/
theorem draw_all (hm : P.follows .mixedOrders = true) (T : Tq P w0 ops ord A H V) {σ : Sg} {w : World} {b : Frame} {t : Array Value} {d : List Deferred} (k : List Item) {cs : List Frame} (n : Nat)
    (r : R w0 σ (H 0) w) (f : FR σ (A 0) b t d) (hcs : CsOk b cs) :
    ∃ σ' w' t', Ext σ σ' ∧ R w0 σ' (H ops.size) w' ∧ FR σ' (A ops.size) b t' d ∧ Steps P (lone (mk b t d (.inRegion ops (Region.schedule (P.follows .mixedOrders) ops n) :: k)) cs w) (lone (mk b t' d k) cs w') := by
  have hfalse : ∀ j, (Array.replicate ops.size false).getD j false = false := by
    intro j
    simp only [Array.getD_eq_getD_getElem?, Array.getElem?_replicate]
    split <;> rfl
  have hdone : ∀ q, doneOf ord (Array.replicate ops.size false) q = false := by
    intro q; unfold doneOf; split
    · exact hfalse _
    · rfl
  obtain ⟨Q, a1, a2, a3, a4, a5, σ1, e1, r1⟩ := T.adv (w0 := w0) (D := doneOf ord (Array.replicate ops.size false)) ops.size 0 (by omega) (fun q _ _ => hdone q) (r.weaken (by
    rintro id (hid | ⟨q, q1, _⟩)
    · exact hid
    · omega))
  have I : Inv P ops ord A H V w0 b d (Array.replicate ops.size false) σ1 w t Q := by
    refine ⟨by simp, fun j o _ hj => ?_, a2, a3, fun q _ hq => ?_, fun q hq hv => ?_, fun j hj => a5 j (by omega) hj, r1, ?_⟩
    · rw [hfalse] at hj; cases hj
    · rw [hdone] at hq; cases hq
    · exact absurd hv (a4 q (by omega) hq)
    · have : aX ops ord A V (doneOf ord (Array.replicate ops.size false)) ops.size = A 0 := by
        have h0 : ∀ m, tm (A 0).tmps (dsOf ops ord) V (doneOf ord (Array.replicate ops.size false)) m = (A 0).tmps := by
          intro m
          induction m with
          | zero => rfl
          | succ m im => simp only [tm, hdone, Bool.false_eq_true, if_false]; exact im
        unfold aX
        rw [h0]
      rw [this]
      exact f.mono e1
  simp only [Region.schedule, hm, Bool.true_or, if_true]
  obtain ⟨σ2, w2, t2, e2, r2, f2, s2⟩ := draw_go (w0 := w0) T (fun k hk => (r.un k hk).1) hcs k ops.size n I (by
    refine Nat.le_trans (List.length_filter_le _ _) ?_
    simp)
  exact ⟨σ2, w2, t2, e1.trans e2, r2, f2, s2⟩

theorem draw_ok (hm : P.follows .mixedOrders = true) (hN : ∀ (f : FuncId) (fn : Func), P.funcs[f]? = some fn → (fn.name == "runtime.NumGoroutine") = false) :
    ∀ (w0 : Bs) (ih : Task → AH → Option Out), (∀ U, CallOK P (w0.at U) ih) → (∀ U, RoundOK P (w0.at U) ih) → ∀ U, DrawOK P (w0.at U) ih := by
  intro w0 ih hC hR U ops a h a' h' e σ w b t d k cs n r f hcs
  unfold drawE at e
  simp only at e
  split at e
  · rename_i hs
    split at e
    · rename_i l hl
      split at e
      · rename_i hd
        obtain ⟨A, H, V, T, rfl, rfl, hlast⟩ := tr_of hs hl hd
        rw [hlast] at e
        cases e
        obtain ⟨σ2, w2, t2, e2, r2, f2, s2⟩ := draw_all (w0 := w0.at U) hm (T.toTq (w0 := w0.at U) hC hR hN) k n r f hcs
        exact ⟨σ2, w2, t2, d, e2, r2, f2, s2⟩
      · cases e
    · cases e
  · cases e

/-- A call that the evaluator takes to true, over what is known of calls: the machine does, and leaves all that was there as it was. -/
theorem comes_true_over (hm : P.follows .mixedOrders = true) (hN : ∀ (f : FuncId) (fn : Func), P.funcs[f]? = some fn → (fn.name == "runtime.NumGoroutine") = false) {ora : Ora} {w : World} {κ : Nat → Nat → Option Value} (hκ : ∀ (b i : Nat) (v : Value), κ b i = some v → w.cell? ⟨b, i, none⟩ = some v) (hO : ∀ U, OraOK P ((Bs.fresh w κ).at U) ora)
    {n : Nat} {f : FuncId} {gs : List ABlk} (hl : gs.length = gmax) (hb : ∀ (g : Nat) (b : ABlk), gs[g]? = some b → b.live = false ∧ BR (Bs.fresh w κ).ok (plStart gmax κ) w.heap[g]? b ⟨g, 0, 0, 0, 0⟩)
    {args : List Value} {args' : Array Value} (hv : VRs (plStart gmax κ) args args'.toList) (e : isTrue (EO P ora n (.call f args) (AH.start gs)) = true) :
    Calls P f args' w fun en w' => en = .returned (.bool true) ∧ Below w.heap.size w w' :=
  calls_true hN hκ hO (draw_ok hm hN _) hl hb hv e

/-- A call without arguments, where no package-level variable is looked at. -/
theorem comes_true (hm : P.follows .mixedOrders = true) (hN : ∀ (f : FuncId) (fn : Func), P.funcs[f]? = some fn → (fn.name == "runtime.NumGoroutine") = false) {n : Nat} {f : FuncId}
    (e : isTrue (E P n (.call f []) (AH.start (List.replicate gmax .dead))) = true) (w : World) : Calls P f #[] w fun en w' => en = .returned (.bool true) ∧ Below w.heap.size w w' :=
  comes_true_over (κ := fun _ _ => none) hm hN (by intro _ _ _ hh; cases hh) (fun U => noOra_ok _) (by simp) (fun g b hg => by
    rw [List.getElem?_replicate] at hg
    split at hg
    · cases hg; exact ⟨rfl, trivial⟩
    · cases hg) (args := []) (args' := #[]) .nil e

end
end Go.Proofs.YtmcmaklilfgdiaaGreat.Ev
