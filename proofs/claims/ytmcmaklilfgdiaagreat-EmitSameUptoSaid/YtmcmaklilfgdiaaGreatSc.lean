/- Symbolic runs: an operation that is good for a run. -/
import Derived.Test.YtmcmaklilfgdiaaGreatSb
namespace Go.Proofs.YtmcmaklilfgdiaaGreat.Ev
open Go Go.RowKit

/-- an operation comes to a value, and the memory to another; in whatever order of its region it is drawn, if the blocks that it looks at stay -/
structure SOp (P : Program) (w0 : Bs) (o : Oper) (a : AF) (h : AH) (v : Value) (h' : AH) (rd wr : List Nat) : Prop where
  nd : ∀ c, o.op ≠ .defer c
  ok : ∀ a2 : AF, a2.rnd = a.rnd → (∀ x ∈ o.op.operands, a2.eval x = a.eval x) → StepOK P w0 o a2 h v h'
  light : lightOp P o.op = true → h' = h ∧ ∀ h2 : AH, (∀ id ∈ rd, h2.get id = h.get id) → ∀ a2 : AF, a2.rnd = a.rnd → (∀ x ∈ o.op.operands, a2.eval x = a.eval x) → StepOK P w0 o a2 h2 v h2
  fill : fillOp o.op = true → ∃ v2 vs esz, h' = h.push (.cells vs esz) ∧ ∀ a2 : AF, a2.rnd = a.rnd → (∀ x ∈ o.op.operands, a2.eval x = a.eval x) → opE P a2.eval o.type o.op h = some (.value v2, h') ∧ a2.put o.dst v = a2.put o.dst v2
  grow : Grow h h' wr

def noGo (P : Program) : Prop := ∀ (f : FuncId) (fn : Func), P.funcs[f]? = some fn → (fn.name == "runtime.NumGoroutine") = false

def noIh : Task → AH → Option Out := fun _ _ => none
theorem noIh_call {P : Program} {w0 : Bs} : ∀ U, CallOK P (w0.at U) noIh := fun U f args h out kind e => by cases e
theorem noIh_round {P : Program} {w0 : Bs} : ∀ U, RoundOK P (w0.at U) noIh := fun U l args h out e => by cases e

section
variable {P : Program} {w0 : Bs} {o : Oper} {a : AF} {h h' : AH} {v : Value}

theorem step_value (hN : noGo P) (hnd : ∀ c, o.op ≠ .defer c) (e : opE P a.eval o.type o.op h = some (.value v, h')) : StepOK P w0 o a h v h' :=
  stepOK_of (ih := noIh) noIh_call noIh_round hN (by unfold stepE; rw [e]) hnd
theorem step_skip (hN : noGo P) (hnd : ∀ c, o.op ≠ .defer c) (e : opE P a.eval o.type o.op h = some (.skip, h')) : StepOK P w0 o a h undef h' :=
  stepOK_of (ih := noIh) noIh_call noIh_round hN (by unfold stepE; rw [e]) hnd

theorem nd_value (e : opE P a.eval o.type o.op h = some (.value v, h')) : ∀ c, o.op ≠ .defer c := by
  intro c hc
  rw [hc] at e
  simp [opE, Option.map_eq_some_iff] at e
theorem nd_skip (e : opE P a.eval o.type o.op h = some (.skip, h')) : ∀ c, o.op ≠ .defer c := by
  intro c hc
  rw [hc] at e
  simp [opE, Option.map_eq_some_iff] at e

theorem sop_value (hN : noGo P) (e : opE P a.eval o.type o.op h = some (.value v, h')) : SOp P w0 o a h v h' (readsOf a.eval o.op) (writesOf a.eval o.op) where
  nd := nd_value e
  ok := fun a2 hr hx => step_value hN (nd_value e) (by rw [opE_congr _ _ _ hx]; exact e)
  light := fun hl => by
    obtain ⟨v', g1, g2, g3⟩ := opE_light hl e
    subst g2
    refine ⟨rfl, fun h2 hs a2 hr hx => step_value hN (nd_value e) ?_⟩
    rw [opE_congr _ _ _ hx]
    exact opE_reads hl e hs
  fill := fun hf => by
    obtain ⟨vs, esz, hp⟩ := opE_fillA hf e
    exact ⟨v, vs, esz, hp, fun a2 hr hx => ⟨by rw [opE_congr _ _ _ hx]; exact e, rfl⟩⟩
  grow := opE_grow e

theorem sop_skip (hN : noGo P) (e : opE P a.eval o.type o.op h = some (.skip, h')) : SOp P w0 o a h undef h' (readsOf a.eval o.op) (writesOf a.eval o.op) where
  nd := nd_skip e
  ok := fun a2 hr hx => step_skip hN (nd_skip e) (by rw [opE_congr _ _ _ hx]; exact e)
  light := fun hl => by
    obtain ⟨v', g1, _⟩ := opE_light hl e
    cases g1
  fill := fun hf => by
    obtain ⟨v', g1⟩ := opE_fillV hf e
    cases g1
  grow := opE_grow e

/-- from what the machine does at the operation: a value, the memory as it is -/
theorem step_pure (hnd : ∀ c, o.op ≠ .defer c) (hm : ∀ (σ : Sg) (w : World) (ρ' : Operand → Value) (U : Nat → Prop), R (w0.at U) σ h w → (∀ x v, a.eval x = some v → VR σ v (ρ' x)) → ∃ v', (execOp ρ' o).run P w = .ok (.value v') w ∧ VR σ v v') :
    StepOK P w0 o a h v h := by
  intro U σ w b t d cs ops i rest k ho r f hcs hw
  obtain ⟨v', g1, g2⟩ := hm σ w (evalC t) U r (f.eval r.gl)
  exact ⟨σ, w, _, Ext.refl σ, r, f.put o.dst g2, .one (sk_value ho hw (.inr hnd) g1)⟩

/-- an operation that looks at lists, and leaves the memory as it is -/
theorem sop_pure {rd : List Nat} (hnd : ∀ c, o.op ≠ .defer c) (hf : fillOp o.op = false)
    (hm : ∀ (h2 : AH), (∀ id ∈ rd, h2.get id = h.get id) → ∀ a2 : AF, (∀ x ∈ o.op.operands, a2.eval x = a.eval x) → ∀ (σ : Sg) (w : World) (ρ' : Operand → Value) (U : Nat → Prop), R (w0.at U) σ h2 w → (∀ x v, a2.eval x = some v → VR σ v (ρ' x)) → ∃ v', (execOp ρ' o).run P w = .ok (.value v') w ∧ VR σ v v') :
    SOp P w0 o a h v h rd [] :=
  have key : ∀ h2 : AH, (∀ id ∈ rd, h2.get id = h.get id) → ∀ a2 : AF, a2.rnd = a.rnd → (∀ x ∈ o.op.operands, a2.eval x = a.eval x) → StepOK P w0 o a2 h2 v h2 :=
    fun h2 hs a2 hr hx => step_pure hnd fun σ w ρ' U r hρ => hm h2 hs a2 hx σ w ρ' U r hρ
  { nd := hnd
    ok := fun a2 hr hx => key h (fun _ _ => rfl) a2 hr hx
    light := fun _ => ⟨rfl, fun h2 hs a2 hr hx => key h2 hs a2 hr hx⟩
    fill := fun hh => by rw [hf] at hh; cases hh
    grow := Grow.refl _ _ }

/-- an operation that acts, and comes to a value -/
theorem sop_act {wr : List Nat} (hnd : ∀ c, o.op ≠ .defer c) (hl : lightOp P o.op = false) (hf : fillOp o.op = false) (hg : Grow h h' wr)
    (hm : ∀ a2 : AF, (∀ x ∈ o.op.operands, a2.eval x = a.eval x) → ∀ (σ : Sg) (w : World) (ρ' : Operand → Value) (U : Nat → Prop), R (w0.at U) σ h w → (∀ x v, a2.eval x = some v → VR σ v (ρ' x)) →
      ∃ σ' w' v', Ext σ σ' ∧ R (w0.at U) σ' h' w' ∧ (execOp ρ' o).run P w = .ok (.value v') w' ∧ VR σ' v v') :
    SOp P w0 o a h v h' [] wr where
  nd := hnd
  ok := fun a2 hr hx U σ w b t d cs ops i rest k ho r f hcs hw => by
    obtain ⟨σ', w', v', g1, g2, g3, g4⟩ := hm a2 hx σ w (evalC t) U r (f.eval r.gl)
    exact ⟨σ', w', _, g1, g2, (f.mono g1).put o.dst g4, .one (sk_value ho hw (.inr hnd) g3)⟩
  light := fun hh => by rw [hl] at hh; cases hh
  fill := fun hh => by rw [hf] at hh; cases hh
  grow := hg

end
end Go.Proofs.YtmcmaklilfgdiaaGreat.Ev
