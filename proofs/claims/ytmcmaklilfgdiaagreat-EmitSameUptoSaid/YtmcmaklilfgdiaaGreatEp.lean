/- A region that draws its order: what an operation looks at. -/
import Derived.Test.YtmcmaklilfgdiaaGreatEo
namespace Go.Proofs.YtmcmaklilfgdiaaGreat.Ev
open Go Go.RowKit

section
variable {P : Program}

theorem evalL_congr {ρ ρ2 : Operand → Option Value} : ∀ {xs : List Operand}, (∀ x ∈ xs, ρ2 x = ρ x) → evalL ρ2 xs = evalL ρ xs
  | [], _ => rfl
  | x :: xs, h => by
    have i := evalL_congr (ρ := ρ) (ρ2 := ρ2) (xs := xs) (fun y hy => h y (by simp [hy]))
    simp only [evalL, h x (by simp), i]

theorem evalPs_congr {ρ ρ2 : Operand → Option Value} : ∀ {xs : List (Nat × Operand)}, (∀ x ∈ xs.map (·.2), ρ2 x = ρ x) → evalPs ρ2 xs = evalPs ρ xs
  | [], _ => rfl
  | (i, x) :: xs, h => by
    have j := evalPs_congr (ρ := ρ) (ρ2 := ρ2) (xs := xs) (fun y hy => h y (by simp only [List.map_cons, List.mem_cons]; exact .inr hy))
    simp only [evalPs, h x (by simp), j]

theorem evalO_congr {ρ ρ2 : Operand → Option Value} {x : Option Operand} (h : ∀ y ∈ x.toArray, ρ2 y = ρ y) : evalO ρ2 x = evalO ρ x := by
  cases x with
  | none => rfl
  | some x => simp only [evalO, h x (by simp)]

theorem opE_congr {ρ ρ2 : Operand → Option Value} (ty : TypeId) (op : Op) (h : AH) (hx : ∀ x ∈ op.operands, ρ2 x = ρ x) : opE P ρ2 ty op h = opE P ρ ty op h := by
  cases op <;> simp only [Op.operands] at hx <;> simp only [opE]
  case move x => rw [hx x (by simp)]
  case assign x => rw [hx x (by simp)]
  case pick c a b => rw [hx c (by simp), hx a (by simp), hx b (by simp)]
  case box e x => rw [hx x (by simp)]
  case build t ps => rw [evalPs_congr (ρ := ρ) (fun y hy => hx y (by simpa using hy))]
  case buildSlice t n ps => rw [evalPs_congr (ρ := ρ) (fun y hy => hx y (by simpa using hy))]
  case load t a => rw [hx a (by simp)]
  case store t a v => rw [hx a (by simp), hx v (by simp)]
  case nilCheck x => rw [hx x (by simp)]
  case binOp op t x y u => rw [hx x (by simp), hx y (by simp)]
  case unOp op t x => rw [hx x (by simp)]
  case convert s d x => rw [hx x (by simp)]
  case makeInterface t x => rw [hx x (by simp)]
  case makeFunc fn first cap =>
    have h1 : evalL ρ2 first.toList = evalL ρ first.toList := evalL_congr fun y hy => hx y (by simp at hy ⊢; exact .inl hy)
    have h2 : evalL ρ2 cap.toList = evalL ρ cap.toList := evalL_congr fun y hy => hx y (by simp at hy ⊢; exact .inr hy)
    cases fn <;> simp only [opE, h1, h2]
  case makeSlice t l c => rw [hx l (by simp), hx c (by simp)]
  case slice t x lo hi mx =>
    rw [hx x (by simp), evalO_congr (ρ := ρ) (fun y hy => hx y (by simp at hy ⊢; simp [hy])), evalO_congr (ρ := ρ) (x := hi) (fun y hy => hx y (by simp at hy ⊢; simp [hy])), evalO_congr (ρ := ρ) (x := mx) (fun y hy => hx y (by simp at hy ⊢; simp [hy]))]
  case fieldAddr s x f => rw [hx x (by simp)]
  case field t x f => rw [hx x (by simp)]
  case indexAddr t x ix => rw [hx x (by simp), hx ix (by simp)]
  case index t x ix => rw [hx x (by simp), hx ix (by simp)]
  case range t x => rw [hx x (by simp)]
  case makeMap t x => cases x <;> rfl
  case lookup t x ix ok => rw [hx x (by simp), hx ix (by simp)]
  case mapUpdate t m k x => rw [hx m (by simp), hx k (by simp), hx x (by simp)]
  case next it s => rw [hx it (by simp)]
  case extract t ix => rw [hx t (by simp)]
  case typeAssert x t as ok => rw [hx x (by simp)]
  case call c =>
    have h1 : evalL ρ2 c.args.toList = evalL ρ c.args.toList := evalL_congr fun y hy => hx y (by simp only [Call.operands, Array.mem_append]; exact .inr (by simpa using hy))
    unfold callE
    rw [h1]
    cases hc : c.callee with
    | value f => simp only [hx f (by simp [Call.operands, hc])]
    | invoke r m => rfl
    | builtin b => rfl
  case defer c =>
    have h1 : evalL ρ2 c.args.toList = evalL ρ c.args.toList := evalL_congr fun y hy => hx y (by simp only [Call.operands, Array.mem_append]; exact .inr (by simpa using hy))
    unfold deferE
    cases hc : c.callee with
    | value f => simp only [h1, hx f (by simp [Call.operands, hc])]
    | invoke r m => rfl
    | builtin b => rfl

variable {ih : Task → AH → Option Out}

/-- two frames that an operation takes for one -/
def Alike (ops : Array Oper) (o : Oper) (a a2 : AF) : Prop := a2.rnd = a.rnd ∧ ∀ t ∈ looks ops o, a2.tmps[t]? = a.tmps[t]?

theorem Alike.eval {ops : Array Oper} {o : Oper} {a a2 : AF} (h : Alike ops o a a2) : ∀ x ∈ o.op.operands, a2.eval x = a.eval x := by
  intro x hx
  cases x with
  | tmp t =>
    have := h.2 t (by
      unfold looks
      refine List.mem_append_left _ (List.mem_filterMap.2 ⟨.tmp t, by simpa using hx, rfl⟩))
    simp only [AF.eval, getL_eq, List.getD_eq_getElem?_getD, this]
  | _ => rfl

theorem Alike.wanted {ops : Array Oper} {o : Oper} {a a2 : AF} (h : Alike ops o a a2) : wantedE ops o a2.tmps = wantedE ops o a.tmps := by
  unfold wantedE
  cases hg : o.guard with
  | none => rfl
  | some g =>
    obtain ⟨j, want⟩ := g
    have : yieldedE ops a2.tmps j = yieldedE ops a.tmps j := by
      unfold yieldedE
      cases hd : (ops[j]?).bind (·.dst) with
      | none => rfl
      | some t =>
        have := h.2 t (by unfold looks; simp [hg, hd])
        simp only [idxL_eq, this]
    simp only [this]

theorem opE_nodefer {ρ : Operand → Option Value} {ty : TypeId} {op : Op} {h h1 : AH} {d : ADef} (hnd : ∀ c, op ≠ .defer c) (hop : opE P ρ ty op h = some (.defer d, h1)) : False := by
  cases op
  case makeFunc fn first cap => cases fn <;> (simp only [opE] at hop; (repeat' split at hop) <;> simp at hop)
  case makeMap t x => cases x <;> (simp only [opE] at hop; simp at hop)
  all_goals first | exact hnd _ rfl | (simp only [opE, callE, builtinE] at hop; (repeat' split at hop) <;> simp at hop)

theorem stepE_congr {o : Oper} {a a' : AF} {h h' : AH} (hnd : ∀ c, o.op ≠ .defer c) (e : stepE P ih o a h = some (a', h')) :
    ∃ v, a' = a.put o.dst v ∧ ∀ a2 : AF, a2.rnd = a.rnd → (∀ x ∈ o.op.operands, a2.eval x = a.eval x) → stepE P ih o a2 h = some (a2.put o.dst v, h') := by
  unfold stepE at e
  split at e
  · rename_i v h1 hop
    cases e
    refine ⟨v, rfl, fun a2 hr hx => ?_⟩
    unfold stepE
    rw [opE_congr o.type o.op h hx, hop]
  · rename_i h1 hop
    cases e
    refine ⟨undef, rfl, fun a2 hr hx => ?_⟩
    unfold stepE
    rw [opE_congr o.type o.op h hx, hop]
  · rename_i f args h1 hop
    simp only [Option.map_eq_some_iff] at e
    obtain ⟨⟨v, h2⟩, ho, hh⟩ := e
    cases hh
    refine ⟨v, rfl, fun a2 hr hx => ?_⟩
    unfold stepE
    rw [opE_congr o.type o.op h hx, hop]
    simp only [ho, Option.map_some]
  · rename_i l args h1 hop
    simp only [Option.map_eq_some_iff] at e
    obtain ⟨⟨v, h2⟩, ho, hh⟩ := e
    cases hh
    refine ⟨v, rfl, fun a2 hr hx => ?_⟩
    unfold stepE
    rw [opE_congr o.type o.op h hx, hop]
    simp only [ho, Option.map_some]
  · rename_i d h1 hop
    exfalso
    exact opE_nodefer hnd hop
  · rename_i h1 hop
    split at e
    · rename_i hr0
      cases e
      refine ⟨.nilIface, rfl, fun a2 hr hx => ?_⟩
      unfold stepE
      rw [opE_congr o.type o.op h hx, hop]
      simp only [hr, hr0, if_true]
    · cases e
  · cases e

/-- the light ones leave the memory as it is -/
theorem opE_light {ρ : Operand → Option Value} {ty : TypeId} {op : Op} {h h1 : AH} {an : AN} (hl : lightOp P op = true) (hop : opE P ρ ty op h = some (an, h1)) :
    (∃ v, an = .value v ∧ h1 = h ∧ (readsOp op = false → ∀ h2, opE P ρ ty op h2 = some (.value v, h2))) := by
  cases op <;> simp only [lightOp, Bool.false_eq_true] at hl
  case makeFunc fn first cap =>
    cases fn <;> simp only [opE] at hop ⊢ <;> (repeat' split at hop) <;> simp at hop
    obtain ⟨rfl, rfl⟩ := hop
    exact ⟨_, rfl, rfl, fun _ h2 => by simp [*]⟩
  case call c =>
    obtain ⟨callee, args, ats⟩ := c
    cases callee with
    | value f => simp only [lightOp, Bool.false_eq_true] at hl
    | invoke r m => simp only [lightOp, Bool.false_eq_true] at hl
    | builtin b =>
      cases b <;> simp only [lightOp, Bool.false_eq_true] at hl
      · simp only [opE, callE] at hop ⊢
        split at hop
        · cases hop
        · rename_i l hargs
          rcases l with _ | ⟨x, _ | ⟨y, l⟩⟩ <;> simp [builtinE, Option.map_eq_some_iff] at hop
          obtain ⟨v, hv, rfl, rfl⟩ := hop
          exact ⟨v, rfl, rfl, fun _ h2 => by simp [hargs, builtinE, hv]⟩
      · simp only [opE, callE] at hop ⊢
        split at hop
        · cases hop
        · rename_i l hargs
          rcases l with _ | ⟨x, _ | ⟨y, l⟩⟩ <;> simp [builtinE, Option.map_eq_some_iff] at hop
          obtain ⟨v, hv, rfl, rfl⟩ := hop
          exact ⟨v, rfl, rfl, fun hr => by simp [readsOp] at hr⟩
  case convert src dst x =>
    simp only [opE] at hop ⊢
    split at hop
    · rename_i v hv
      simp only [Option.map_eq_some_iff] at hop
      obtain ⟨⟨u, h2⟩, hc, hh⟩ := hop
      cases hh
      refine ⟨u, rfl, ?_, fun hr => by simp [readsOp] at hr⟩
      unfold convertE at hc
      split at hc
      · cases hc; rfl
      · cases hc; rfl
      · rename_i e s h1 h2
        simp [h1, h2] at hl
      · split at hc
        · cases hc; rfl
        · cases hc
      · split at hc
        · split at hc
          · cases hc; rfl
          · split at hc
            · simp only [Option.map_eq_some_iff] at hc
              obtain ⟨bs, _, hh⟩ := hc
              cases hh; rfl
            · cases hc
          · cases hc
        · cases hc
      · cases hc
    · cases hop
  case load t a =>
    simp only [opE] at hop ⊢
    (repeat' split at hop) <;> simp at hop
    obtain ⟨v, hv, rfl, rfl⟩ := hop
    exact ⟨v, rfl, rfl, fun hr => by simp [readsOp] at hr⟩
  case lookup t x ix ok =>
    simp only [opE] at hop ⊢
    (repeat' split at hop) <;> simp at hop
    obtain ⟨v, hv, rfl, rfl⟩ := hop
    exact ⟨v, rfl, rfl, fun hr => by simp [readsOp] at hr⟩
  case slice t x lo hi mx =>
    simp only [opE] at hop ⊢
    (repeat' split at hop) <;> simp at hop
    obtain ⟨v, hv, rfl, rfl⟩ := hop
    exact ⟨v, rfl, rfl, fun hr => by simp [readsOp] at hr⟩
  case move x =>
    simp only [opE, Option.map_eq_some_iff] at hop ⊢
    obtain ⟨v, hv, hh⟩ := hop; cases hh
    exact ⟨v, rfl, rfl, fun _ h2 => ⟨v, hv, rfl⟩⟩
  case assign x =>
    simp only [opE, Option.map_eq_some_iff] at hop ⊢
    obtain ⟨v, hv, hh⟩ := hop; cases hh
    exact ⟨v, rfl, rfl, fun _ h2 => ⟨v, hv, rfl⟩⟩
  case nilCheck x =>
    simp only [opE] at hop ⊢
    (repeat' split at hop) <;> simp at hop <;> (obtain ⟨rfl, rfl⟩ := hop; exact ⟨_, rfl, rfl, fun _ h2 => by simp [*]⟩)
  case makeInterface t x =>
    simp only [opE] at hop ⊢
    split at hop
    · cases hop
    · rename_i d hni hd
      split at hop
      · rename_i v hv
        cases hop
        exact ⟨_, rfl, rfl, fun _ h2 => by simp only [hv]⟩
      · cases hop
    · cases hop
  all_goals
    simp only [opE] at hop ⊢
    (repeat' split at hop) <;> simp at hop <;> (first
      | (obtain ⟨rfl, rfl⟩ := hop; exact ⟨_, rfl, rfl, fun _ h2 => by simp [*]⟩)
      | (obtain ⟨v, hv, rfl, rfl⟩ := hop; exact ⟨_, rfl, rfl, fun _ h2 => by simp [*]⟩))

end
end Go.Proofs.YtmcmaklilfgdiaaGreat.Ev
