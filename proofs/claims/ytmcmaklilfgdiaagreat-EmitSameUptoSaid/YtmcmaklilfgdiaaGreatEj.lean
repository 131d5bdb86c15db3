/- Each operation of the evaluator is the machine's: all of them. -/
import Derived.Test.YtmcmaklilfgdiaaGreatEu
namespace Go.Proofs.YtmcmaklilfgdiaaGreat.Ev
open Go Go.RowKit

def DR (σ : Sg) (d : ADef) (d' : Deferred) : Prop :=
  match d with
  | .collected id => ∃ p, pl σ id = some p ∧ d' = { target := .collected p.blk, args := #[] }
  | .fn f args => ∃ cap' args' : Array Value, d' = { target := .fn (.func f) cap', args := args' } ∧ VRs σ args (args'.toList ++ cap'.toList)

theorem DR.mono {σ σ' : Sg} (e : Ext σ σ') {d : ADef} {d' : Deferred} (h : DR σ d d') : DR σ' d d' := by
  cases d with
  | collected id => obtain ⟨p, h1, h2⟩ := h; exact ⟨p, e _ _ h1, h2⟩
  | fn f args => obtain ⟨c, a, h1, h2⟩ := h; exact ⟨c, a, h1, h2.mono e⟩

section
variable {P : Program} {σ : Sg} {w0 : Bs} {h : AH} {w : World} {ρ : Operand → Option Value} {ρ' : Operand → Value}

/-- What an operation of the evaluator says of the machine's. -/
def OpR (P : Program) (w0 : Bs) (σ : Sg) (ρ' : Operand → Value) (o : Oper) (h : AH) (w : World) (an : AN) (h' : AH) : Prop :=
  match an with
  | .value v => ∃ σ' w' v', Ext σ σ' ∧ R w0 σ' h' w' ∧ (execOp ρ' o).run P w = .ok (.value v') w' ∧ VR σ' v v'
  | .skip => ∃ w', R w0 σ h' w' ∧ (execOp ρ' o).run P w = .ok .skip w'
  | .enter f args => h' = h ∧ ∃ args' : Array Value, VRs σ args args'.toList ∧ ∀ fn, P.funcs[f]? = some fn → fn.body.isSome = true → (execOp ρ' o).run P w = .ok (.enter f args') w
  | .round l args => h' = h ∧ ∃ (p : Pl) (args' : Array Value), pl σ l = some p ∧ VRs σ args args'.toList ∧ (execOp ρ' o).run P w = (Instr.yield p.blk args').run P w
  | .defer d => h' = h ∧ ∃ d', (execOp ρ' o).run P w = .ok (.defer d') w ∧ DR σ d d'
  | .recover => h' = h ∧ (execOp ρ' o).run P w = .ok .recover w

theorem evalL_sound (hρ : ∀ x v, ρ x = some v → VR σ v (ρ' x)) : ∀ {xs : List Operand} {l : List Value}, evalL ρ xs = some l → VRs σ l (xs.map ρ')
  | [], l, e => by cases e; exact .nil
  | x :: xs, l, e => by
    unfold evalL at e
    split at e
    · rename_i v hv
      simp only [Option.map_eq_some_iff] at e
      obtain ⟨l', hl, rfl⟩ := e
      exact .cons (hρ x v hv) (evalL_sound hρ hl)
    · cases e

theorem evalPs_sound (hρ : ∀ x v, ρ x = some v → VR σ v (ρ' x)) : ∀ {xs : List (Nat × Operand)} {l : List (Nat × Value)}, evalPs ρ xs = some l → VRp σ l (xs.map fun (i, x) => (i, ρ' x))
  | [], l, e => by cases e; exact .nil
  | (i, x) :: xs, l, e => by
    unfold evalPs at e
    split at e
    · rename_i v hv
      simp only [Option.map_eq_some_iff] at e
      obtain ⟨l', hl, rfl⟩ := e
      exact .cons (hρ x v hv) (evalPs_sound hρ hl)
    · cases e

theorem evalO_sound (hρ : ∀ x v, ρ x = some v → VR σ v (ρ' x)) {x : Option Operand} {v : Option Value} (e : evalO ρ x = some v) : VRo σ v (x.map ρ') := by
  cases x with
  | none => cases e; exact .none
  | some x =>
    simp only [evalO, Option.map_eq_some_iff] at e
    obtain ⟨u, hu, rfl⟩ := e
    exact .some (hρ x u hu)

/-- a value that leaves the memory as it is -/
theorem OpR.pure (r : R w0 σ h w) {o : Oper} {v v' : Value} (hr : VR σ v v') (hrun : (execOp ρ' o).run P w = .ok (.value v') w) : OpR P w0 σ ρ' o h w (.value v) h :=
  ⟨σ, w, v', Ext.refl σ, r, hrun, hr⟩

theorem v_run {s : Sem Value} {v : Value} {w' : World} (hs : s.run P w = .ok v w') : (do Pure.pure (Next.value (← s)) : Sem Next).run P w = .ok (.value v) w' := by
  simp [hs]

theorem bin_sound {op : BinOp} {t : TypeId} {x y x' y' v : Value} (hx : VR σ x x') (hy : VR σ y y') (e : binE P op t x y = some v) (w : World) :
    ∃ v', (binOp op t x' y').run P w = .ok v' w ∧ VR σ v v' ∧ ∀ xo yo, (eqGuard op t xo yo x' y').run P w = .ok () w := by
  have g : (∀ c, x' ≠ .agg c) ∧ x' ≠ .nilIface → ∀ xo yo, (eqGuard op t xo yo x' y').run P w = .ok () w := by
    intro h xo yo
    exact eqGuard_plain op t xo yo x' y' h w
  unfold binE at e
  split at e
  · rename_i k a k' b
    cases hx; cases hy
    split at e
    · rename_i v0 hv0
      split at hv0
      · rename_i hk; subst hk
        cases e
        obtain ⟨h1, h2⟩ := intE_sound (P := P) (t := t) hv0 w
        exact ⟨v, h1, VR.simple h2, g ⟨(fun c hh => (by cases hh)), (fun hh => (by cases hh))⟩⟩
      · cases hv0
    · obtain ⟨h1, h2⟩ := binInt_sound e w
      exact ⟨v, h1, VR.simple h2, g ⟨(fun c hh => (by cases hh)), (fun hh => (by cases hh))⟩⟩
  · rename_i a b
    cases hx; cases hy
    obtain ⟨h1, h2⟩ := binStr_sound e w
    exact ⟨v, h1, VR.simple h2, g ⟨(fun c hh => (by cases hh)), (fun hh => (by cases hh))⟩⟩
  · split at e
    · rename_i d hd
      split at e
      · rename_i hk
        simp only [Option.map_eq_some_iff] at e
        obtain ⟨b, hb, rfl⟩ := e
        obtain ⟨h1, h2, h3, h4⟩ := eql_sound hx hy hb hd hk w
        exact ⟨_, h1, .bool _, g ⟨h3, h4⟩⟩
      · simp only [Option.map_eq_some_iff] at e
        obtain ⟨b, hb, rfl⟩ := e
        obtain ⟨h1, h2, h3⟩ := struct_sound hx hy hb w
        exact ⟨_, h1, .bool _, fun xo yo => h3 _ xo yo⟩
    · rename_i d hd
      split at e
      · rename_i hk
        simp only [Option.map_eq_some_iff] at e
        obtain ⟨b, hb, rfl⟩ := e
        obtain ⟨h1, h2, h3, h4⟩ := eql_sound hx hy hb hd hk w
        exact ⟨_, h2, .bool _, g ⟨h3, h4⟩⟩
      · simp only [Option.map_eq_some_iff] at e
        obtain ⟨b, hb, rfl⟩ := e
        obtain ⟨h1, h2, h3⟩ := struct_sound hx hy hb w
        exact ⟨_, h2, .bool _, fun xo yo => h3 _ xo yo⟩
    · cases e

theorem map_arr {α β : Type} (f : α → β) (a : Array α) : (⟨a.toList.map f⟩ : Array β) = a.map f := by apply Array.ext'; simp

theorem list2 {σ : Sg} {a b : Value} {l : List Value} (h : VRs σ [a, b] l) : ∃ a' b', l = [a', b'] ∧ VR σ a a' ∧ VR σ b b' := by
  cases h with
  | cons h1 t => cases t with
    | cons h2 t => cases t; exact ⟨_, _, rfl, h1, h2⟩
theorem list1 {σ : Sg} {a : Value} {l : List Value} (h : VRs σ [a] l) : ∃ a', l = [a'] ∧ VR σ a a' := by
  cases h with
  | cons h1 t => cases t; exact ⟨_, rfl, h1⟩

theorem call_sound (r : R w0 σ h w) (hN : ∀ (f : FuncId) (fn : Func), P.funcs[f]? = some fn → (fn.name == "runtime.NumGoroutine") = false)
    (hρ : ∀ x v, ρ x = some v → VR σ v (ρ' x)) {dst : Option Tmp} {ty : TypeId} {pos : String} {after : Array Edge} {guard : Option (Nat × Bool)} {c : Call} {an : AN} {h' : AH}
    (e : callE P ρ c h = some (an, h')) : OpR P w0 σ ρ' ⟨dst, .call c, ty, pos, after, guard⟩ h w an h' := by
  unfold callE at e
  split at e
  · cases e
  · rename_i args hargs
    have hv := evalL_sound hρ hargs
    have hargs' : (c.args.map ρ').toList = c.args.toList.map ρ' := by simp
    split at e
    · -- a builtin
      rename_i b hb
      have hrun : ∀ nx w', (builtin b c.argTypes ty (c.args.map fun | .const _ => true | _ => false) (c.args.map ρ')).run P w = .ok nx w' → (execOp ρ' ⟨dst, .call c, ty, pos, after, guard⟩).run P w = .ok nx w' := by
        intro nx w' hh
        simp only [execOp, resolve, hb, Sem.run_bind, Sem.run_pure, Result.andThen_ok, invoke]
        exact hh
      unfold builtinE at e
      split at e
      · -- len
        rename_i x
        simp only [Option.map_eq_some_iff] at e
        obtain ⟨v, hl, hh⟩ := e; cases hh
        obtain ⟨x', hx, hr⟩ := list1 hv
        have ha : c.args.map ρ' = #[x'] := by apply Array.ext'; rw [hargs', hx]
        obtain ⟨v', hr1, hr2⟩ := len_sound (ty := ty) r hr hl
        exact OpR.pure r hr2 (hrun _ _ (by rw [ha]; exact v_run hr1))
      · -- cap
        rename_i x
        simp only [Option.map_eq_some_iff] at e
        obtain ⟨v, hl, hh⟩ := e; cases hh
        obtain ⟨x', hx, hr⟩ := list1 hv
        have ha : c.args.map ρ' = #[x'] := by apply Array.ext'; rw [hargs', hx]
        obtain ⟨v', hr1, hr2⟩ := cap_sound (ty := ty) hr hl w
        exact OpR.pure r hr2 (hrun _ _ (by rw [ha]; exact v_run hr1))
      · -- append
        rename_i s x
        simp only [Option.map_eq_some_iff] at e
        obtain ⟨⟨v, h1⟩, hl, hh⟩ := e; cases hh
        obtain ⟨s', x', hx, hrs, hrx⟩ := list2 hv
        have ha : c.args.map ρ' = #[s', x'] := by apply Array.ext'; rw [hargs', hx]
        obtain ⟨σ', w', v', g1, g2, g3, g4⟩ := append_sound (ty := ty) r hrs hrx hl
        exact ⟨σ', w', v', g1, g2, hrun _ _ (by rw [ha]; exact v_run g3), g4⟩
      · -- copy
        rename_i s x
        simp only [Option.map_eq_some_iff] at e
        obtain ⟨⟨v, h1⟩, hl, hh⟩ := e; cases hh
        obtain ⟨s', x', hx, hrs, hrx⟩ := list2 hv
        have ha : c.args.map ρ' = #[s', x'] := by apply Array.ext'; rw [hargs', hx]
        obtain ⟨w', v', g2, g3, g4⟩ := copy_sound (ty := ty) r hrs hrx hl
        exact ⟨σ, w', v', Ext.refl σ, g2, hrun _ _ (by rw [ha]; exact v_run g3), g4⟩
      · -- max
        rename_i x l
        simp only [Option.map_eq_some_iff] at e
        obtain ⟨v, hl, hh⟩ := e; cases hh
        generalize hz : c.args.toList.map ρ' = z at hv
        cases hv with
        | cons h1 h2 =>
          obtain ⟨v', hr1, hr2⟩ := max_sound h1 h2 hl w
          refine OpR.pure r hr2 (hrun _ _ ?_)
          refine v_run ?_
          simp only [Builtin.max_, hargs', hz]
          exact hr1
      · -- min
        rename_i x l
        simp only [Option.map_eq_some_iff] at e
        obtain ⟨v, hl, hh⟩ := e; cases hh
        generalize hz : c.args.toList.map ρ' = z at hv
        cases hv with
        | cons h1 h2 =>
          obtain ⟨v', hr1, hr2⟩ := min_sound h1 h2 hl w
          refine OpR.pure r hr2 (hrun _ _ ?_)
          refine v_run ?_
          simp only [Builtin.min_, hargs', hz]
          exact hr1
      · cases e
        exact ⟨rfl, hrun _ _ rfl⟩
      · cases e
    · -- a function's value
      rename_i f hf
      split at e
      · rename_i g first cap hg
        cases e
        have h1 := hρ _ _ hg
        obtain ⟨first', cap', hff, hvf, hvc⟩ : ∃ first' cap', ρ' f = .func (.func g) ⟨first'⟩ ⟨cap'⟩ ∧ VRs σ first first' ∧ VRs σ cap cap' := by
          generalize ρ' f = z at h1
          cases h1 with
          | func ha hc => exact ⟨_, _, rfl, ha, hc⟩
        refine ⟨rfl, ⟨first'⟩ ++ c.args.map ρ' ++ ⟨cap'⟩, ?_, ?_⟩
        · have : ((⟨first'⟩ : Array Value) ++ c.args.map ρ' ++ ⟨cap'⟩).toList = first' ++ c.args.toList.map ρ' ++ cap' := by simp
          rw [this]
          exact (hvf.append hv).append hvc
        · intro fn hfn hbody
          have hbn : fn.body.isNone = false := by cases hx : fn.body with
            | none => rw [hx] at hbody; cases hbody
            | some _ => rfl
          simp only [execOp, resolve, hf, hff, Deferred.ofValue, Sem.run_bind, Sem.run_pure, Result.andThen_ok, invoke, callFunc, run_program, hfn, hN g fn hfn, Bool.false_eq_true, if_false, hbn]
      · rename_i l hg
        cases e
        have h1 := hρ _ _ hg
        obtain ⟨p, hff, hp⟩ : ∃ p, ρ' f = .func (.yield p.blk) ⟨[]⟩ ⟨[]⟩ ∧ pl σ l = some p := by
          generalize ρ' f = z at h1
          cases h1 with
          | yield hp => exact ⟨_, rfl, hp⟩
        refine ⟨rfl, p, c.args.map ρ', hp, by rw [hargs']; exact hv, ?_⟩
        have he : (⟨[]⟩ : Array Value) ++ c.args.map ρ' = c.args.map ρ' := by apply Array.ext'; simp
        simp only [execOp, resolve, hf, hff, Deferred.ofValue, Sem.run_bind, Sem.run_pure, Result.andThen_ok, invoke, he]
      · cases e
    · cases e

theorem defer_sound (hρ : ∀ x v, ρ x = some v → VR σ v (ρ' x)) {c : Call} {d : ADef} (e : deferE ρ c = some d) (ty : TypeId) (w : World) :
    ∃ d', (resolve ρ' c ty).run P w = .ok d' w ∧ DR σ d d' := by
  unfold deferE at e
  split at e
  · rename_i f hf
    split at e
    · rename_i g first cap args hg hargs
      cases e
      have hv := evalL_sound hρ hargs
      have h1 := hρ _ _ hg
      obtain ⟨first', cap', hff, hvf, hvc⟩ : ∃ first' cap', ρ' f = .func (.func g) ⟨first'⟩ ⟨cap'⟩ ∧ VRs σ first first' ∧ VRs σ cap cap' := by
        generalize ρ' f = z at h1
        cases h1 with
        | func ha hc => exact ⟨_, _, rfl, ha, hc⟩
      refine ⟨_, by simp only [resolve, hf, hff, Deferred.ofValue, Sem.run_pure], ⟨cap'⟩, ⟨first'⟩ ++ c.args.map ρ', rfl, ?_⟩
      have : ((⟨first'⟩ : Array Value) ++ c.args.map ρ').toList ++ (⟨cap'⟩ : Array Value).toList = first' ++ c.args.toList.map ρ' ++ cap' := by simp
      rw [this]
      exact (hvf.append hv).append hvc
    · cases e
  · cases e

theorem opE_sound (r : R w0 σ h w) (hN : ∀ (f : FuncId) (fn : Func), P.funcs[f]? = some fn → (fn.name == "runtime.NumGoroutine") = false)
    (hρ : ∀ x v, ρ x = some v → VR σ v (ρ' x)) {o : Oper} {an : AN} {h' : AH} (e : opE P ρ o.type o.op h = some (an, h')) : OpR P w0 σ ρ' o h w an h' := by
  obtain ⟨dst, op, ty, pos, after, guard⟩ := o
  simp only at e
  unfold opE at e
  split at e
  · -- move
    simp only [Option.map_eq_some_iff] at e
    obtain ⟨v, hv, hh⟩ := e; cases hh
    exact OpR.pure r (hρ _ _ hv) rfl
  · simp only [Option.map_eq_some_iff] at e
    obtain ⟨v, hv, hh⟩ := e; cases hh
    exact OpR.pure r (hρ _ _ hv) rfl
  · -- pick
    rename_i c a b
    split at e
    · rename_i c' va vb hc ha hb
      cases e
      have h1 := hρ _ _ hc
      have h2 := hρ _ _ ha
      have h3 := hρ _ _ hb
      have hcv : ρ' c = .bool c' := by generalize ρ' c = z at h1; cases h1; rfl
      cases c' with
      | true => exact OpR.pure (v' := ρ' a) r h2 (by simp [execOp, hcv, asBool])
      | false => exact OpR.pure (v' := ρ' b) r h3 (by simp [execOp, hcv, asBool])
    · cases e
  · -- alloc
    simp only [Option.map_eq_some_iff] at e
    obtain ⟨z, hz, hh⟩ := e; cases hh
    obtain ⟨σ', w', u', h1, h2, h3, h4⟩ := alloc_sound r hz
    exact ⟨σ', w', u', h1, h2, v_run h3, h4⟩
  · -- box
    simp only [Option.map_eq_some_iff] at e
    obtain ⟨z, hz, hh⟩ := e; cases hh
    obtain ⟨σ', w', u', h1, h2, h3, h4⟩ := box_sound (P := P) r _ (hρ _ _ hz)
    exact ⟨σ', w', u', h1, h2, v_run h3, h4⟩
  · -- build
    split at e
    · rename_i ps hps
      simp only [Option.map_eq_some_iff] at e
      obtain ⟨v, hv, hh⟩ := e; cases hh
      obtain ⟨v', hrun, hr⟩ := build_sound (evalPs_sound hρ hps) hv w
      rw [map_arr] at hrun
      exact OpR.pure r hr (v_run hrun)
    · cases e
  · -- buildSlice
    split at e
    · rename_i ps hps
      simp only [Option.map_eq_some_iff] at e
      obtain ⟨⟨v, h1⟩, hv, hh⟩ := e; cases hh
      obtain ⟨σ', w', v', g1, g2, g3, g4⟩ := buildSlice_sound (P := P) r (evalPs_sound hρ hps) hv
      rw [map_arr] at g3
      exact ⟨σ', w', v', g1, g2, v_run g3, g4⟩
    · cases e
  · -- load
    split at e
    · rename_i p hp
      simp only [Option.map_eq_some_iff] at e
      obtain ⟨v, hv, hh⟩ := e; cases hh
      obtain ⟨v', hrun, hr, _⟩ := load_sound r hv (hρ _ _ hp)
      exact OpR.pure r hr (v_run hrun)
    · cases e
  · -- store
    split at e
    · rename_i p v hp hv
      simp only [Option.map_eq_some_iff] at e
      obtain ⟨h1, hs, hh⟩ := e; cases hh
      obtain ⟨w', hrun, r'⟩ := store_sound r hs (hρ _ _ hp) (hρ _ _ hv)
      exact ⟨w', r', by simp only [execOp, Sem.run_bind, hrun, Result.andThen_ok, Sem.run_pure]⟩
    · cases e
  · -- nilCheck
    rename_i x
    split at e
    · rename_i a hx
      cases e
      have h1 := hρ _ _ hx
      obtain ⟨a', ha⟩ : ∃ a', ρ' x = .pointer (some a') := by generalize ρ' x = z at h1; cases h1; exact ⟨_, rfl⟩
      exact OpR.pure (v' := ρ' x) r h1 (by simp [execOp, ha])
    · rename_i f first cap hx
      cases e
      have h1 := hρ _ _ hx
      obtain ⟨a', b', ha⟩ : ∃ a' b', ρ' x = .func (.func f) a' b' := by generalize ρ' x = z at h1; cases h1; exact ⟨_, _, rfl⟩
      exact OpR.pure (v' := ρ' x) r h1 (by simp [execOp, ha])
    · cases e
  · -- binOp
    rename_i op t x y _
    split at e
    · rename_i a b ha hb
      simp only [Option.map_eq_some_iff] at e
      obtain ⟨v, hv, hh⟩ := e; cases hh
      obtain ⟨v', hrun, hr, h3⟩ := bin_sound (hρ _ _ ha) (hρ _ _ hb) hv w
      refine OpR.pure r hr (v_run ?_)
      simp only [Sem.run_bind, h3 x y, Result.andThen_ok, hrun]
    · cases e
  · -- unOp
    rename_i op _ x
    split at e
    · rename_i k n hx
      simp only [Option.map_eq_some_iff] at e
      obtain ⟨v, hv, hh⟩ := e; cases hh
      have h1 := hρ _ _ hx
      have ha : ρ' x = .int k n := by generalize ρ' x = z at h1; cases h1; rfl
      obtain ⟨g1, g2⟩ := un_sound hv (.inl ⟨k, n, rfl⟩) w
      exact OpR.pure r (VR.simple g2) (v_run (by rw [ha]; exact g1))
    · rename_i b hx
      simp only [Option.map_eq_some_iff] at e
      obtain ⟨v, hv, hh⟩ := e; cases hh
      have h1 := hρ _ _ hx
      have ha : ρ' x = .bool b := by generalize ρ' x = z at h1; cases h1; rfl
      obtain ⟨g1, g2⟩ := un_sound hv (.inr ⟨b, rfl⟩) w
      exact OpR.pure r (VR.simple g2) (v_run (by rw [ha]; exact g1))
    · cases e
  · -- convert
    split at e
    · rename_i v0 hx
      simp only [Option.map_eq_some_iff] at e
      obtain ⟨⟨v, h1⟩, hv, hh⟩ := e; cases hh
      obtain ⟨σ', w', v', g1, g2, g3, g4⟩ := convert_sound r (hρ _ _ hx) hv
      exact ⟨σ', w', v', g1, g2, v_run g3, g4⟩
    · cases e
  · -- makeInterface
    split at e
    · cases e
    · rename_i d hni hd
      split at e
      · rename_i v hv
        cases e
        refine OpR.pure r (.iface (hρ _ _ hv)) (v_run ?_)
        simp only [Instr.makeInterface, Sem.run_bind, run_underlying' hd, Result.andThen_ok]
        cases d <;> first | rfl | exact absurd hd (hni _)
      · cases e
    · cases e
  · -- makeFunc
    split at e
    · rename_i fs cs hf hc
      cases e
      have h1 := evalL_sound hρ hf
      have h2 := evalL_sound hρ hc
      refine OpR.pure r (.func h1 h2) (v_run ?_)
      simp only [Instr.makeFunc, Sem.run_pure, map_arr]
    · cases e
  · -- makeSlice
    split at e
    · rename_i l c hl hc
      simp only [Option.map_eq_some_iff] at e
      obtain ⟨⟨v, h1⟩, hv, hh⟩ := e; cases hh
      obtain ⟨σ', w', v', g1, g2, g3, g4⟩ := makeSlice_sound r (hρ _ _ hl) (hρ _ _ hc) hv
      exact ⟨σ', w', v', g1, g2, v_run g3, g4⟩
    · cases e
  · -- slice
    split at e
    · rename_i x lo hi mx hx hlo hhi hmx
      simp only [Option.map_eq_some_iff] at e
      obtain ⟨v, hv, hh⟩ := e; cases hh
      obtain ⟨v', hrun, hr⟩ := slice_sound r (hρ _ _ hx) (evalO_sound hρ hlo) (evalO_sound hρ hhi) (evalO_sound hρ hmx) hv
      exact OpR.pure r hr (v_run hrun)
    · cases e
  · -- fieldAddr
    split at e
    · rename_i x hx
      simp only [Option.map_eq_some_iff] at e
      obtain ⟨v, hv, hh⟩ := e; cases hh
      obtain ⟨v', hrun, hr⟩ := fieldAddr_sound (hρ _ _ hx) hv w
      exact OpR.pure r hr (v_run hrun)
    · cases e
  · -- field
    rename_i t x f
    split at e
    · rename_i cs fields hx hd
      split at e
      · rename_i fd hf
        simp only [Option.map_eq_some_iff] at e
        obtain ⟨v, hv, hh⟩ := e; cases hh
        have h1 := hρ _ _ hx
        obtain ⟨cs', ha, hc⟩ : ∃ cs', ρ' x = .agg ⟨cs'⟩ ∧ VRs σ cs cs' := by
          generalize ρ' x = z at h1
          cases h1 with
          | agg hc => exact ⟨_, rfl, hc⟩
        obtain ⟨v', hrun, hr⟩ := field_sound hc hd hf hv w
        exact OpR.pure r hr (v_run (by rw [ha]; exact hrun))
      · cases e
    · cases e
  · -- indexAddr
    split at e
    · rename_i x ix hx hix
      simp only [Option.map_eq_some_iff] at e
      obtain ⟨v, hv, hh⟩ := e; cases hh
      obtain ⟨v', hrun, hr⟩ := indexAddr_sound (hρ _ _ hx) (hρ _ _ hix) hv w
      exact OpR.pure r hr (v_run hrun)
    · cases e
  · -- index
    split at e
    · rename_i x ix hx hix
      simp only [Option.map_eq_some_iff] at e
      obtain ⟨v, hv, hh⟩ := e; cases hh
      obtain ⟨v', hrun, hr⟩ := index_sound (hρ _ _ hx) (hρ _ _ hix) hv w
      exact OpR.pure r hr (v_run hrun)
    · cases e
  · -- makeMap
    cases e
    let p : Pl := ⟨w.heap.size, 0, 0, 0, 0⟩
    have r' := r.alloc (.map #[] 0) (.map [] 0) p rfl ⟨r.okn, [], rfl, .nil⟩
    exact ⟨σ ++ [some p], _, .map (some p.blk), Ext.snoc _ _, r', v_run (by simp only [Instr.makeMap, Option.map_none, Sem.run_bind, run_newObj, World.alloc_eq, Result.andThen_ok, Sem.run_pure]; rfl), .map (get_new r p)⟩
  · -- lookup
    rename_i t x ix ok
    split at e
    · rename_i x k hx hk
      simp only [Option.map_eq_some_iff] at e
      obtain ⟨v, hv, hh⟩ := e; cases hh
      obtain ⟨v', hrun, hr⟩ := lookup_sound r (hρ _ _ hx) (hρ _ _ hk) hv
      exact OpR.pure r hr (v_run hrun)
    · cases e
  · -- mapUpdate
    rename_i t m k x
    split at e
    · rename_i m k v hm hk hv
      simp only [Option.map_eq_some_iff] at e
      obtain ⟨h1, hh, e2⟩ := e; cases e2
      obtain ⟨w', hrun, r'⟩ := mapUpdate_sound r (hρ _ _ hm) (hρ _ _ hk) (hρ _ _ hv) hh
      exact ⟨w', r', by simp only [execOp, Sem.run_bind, hrun, Result.andThen_ok, Sem.run_pure]⟩
    · cases e
  · -- range
    rename_i t x
    split at e
    · rename_i s hx hd
      cases e
      have h1 := hρ _ _ hx
      have ha : ρ' x = .string s := by generalize ρ' x = z at h1; cases h1; rfl
      let p : Pl := ⟨w.heap.size, 0, 0, 0, 0⟩
      have r' := r.alloc (.stringIter s 0) (.iter s 0) p rfl ⟨r.okn, rfl, rfl⟩
      refine ⟨σ ++ [some p], _, .pointer (some ⟨p.blk, p.off + 0, none⟩), Ext.snoc _ _, r', v_run ?_, .ptr (get_new r p)⟩
      simp only [Instr.range, Sem.run_bind, run_underlying' hd, ha, Result.andThen_ok, Sem.run_pure, run_newObj, World.alloc_eq]
      rfl
    · cases e
  · -- next
    rename_i it isString
    split at e
    · rename_i b hx
      split at e
      · rename_i s pos hg
        have h1 := hρ _ _ hx
        obtain ⟨p, hp, ha⟩ := ptr_inv h1
        have hb := r.br _ _ p hg hp
        obtain ⟨hN0, ho, hobj⟩ := hb
        have hlt : p.blk < w.heap.size := (Array.getElem?_eq_some_iff.1 hobj).1
        have ha' : ρ' it = .pointer (some ⟨p.blk, 0, none⟩) := by rw [ha, ho]
        have hget : (getObj p.blk).run P w = .ok (.stringIter s pos) w := by simp [getObj, Sem.run, hobj]
        split at e
        · rename_i hlt2
          simp only [Nat.blt_eq] at hlt2
          cases e
          have hset : (setObj p.blk (.stringIter s (pos + (Utf8.decode s pos).2))).run P w = .ok () { w with heap := w.heap.setIfInBounds p.blk (.stringIter s (pos + (Utf8.decode s pos).2)) } := by simp [setObj, Sem.run, hobj]
          have r' := r.turn (b' := .iter s (pos + (Utf8.decode s pos).2)) (w' := { w with heap := w.heap.setIfInBounds p.blk (.stringIter s (pos + (Utf8.decode s pos).2)) }) hg rfl hp (by simp) rfl rfl rfl (fun k hk => by
            show (w.heap.setIfInBounds p.blk _)[k]? = _
            rw [Array.getElem?_setIfInBounds_ne (fun hh => hk hh.symm)]) ⟨hN0, ho, by
            show (w.heap.setIfInBounds p.blk _)[p.blk]? = _
            rw [Array.getElem?_setIfInBounds_self_of_lt hlt]⟩
          refine ⟨σ, _, _, Ext.refl σ, r', v_run ?_, .tuple (.cons (.bool true) (.cons (.int _ _) (.cons (.int _ _) .nil)))⟩
          simp only [Instr.next, ha', Sem.run_bind, hget, Result.andThen_ok, Sem.run_ite, if_pos hlt2, hset, Sem.run_pure]
          rfl
        · rename_i hlt2
          simp only [Nat.blt_eq] at hlt2
          cases e
          refine OpR.pure r (.tuple (.cons (.bool false) .nil)) (v_run ?_)
          simp only [Instr.next, ha', Sem.run_bind, hget, Result.andThen_ok, Sem.run_ite, if_neg hlt2, Sem.run_pure]
      · cases e
    · cases e
  · -- extract
    rename_i t ix
    split at e
    · rename_i vs hx
      simp only [Option.map_eq_some_iff] at e
      obtain ⟨v, hv, hh⟩ := e; cases hh
      have h1 := hρ _ _ hx
      obtain ⟨vs', ha, hc⟩ : ∃ vs', ρ' t = .tuple ⟨vs'⟩ ∧ VRs σ vs vs' := by
        generalize ρ' t = z at h1
        cases h1 with
        | tuple hc => exact ⟨_, rfl, hc⟩
      obtain ⟨v', hv', hr⟩ := hc.get hv
      refine OpR.pure r hr (v_run ?_)
      have : (⟨vs'⟩ : Array Value)[ix]? = some v' := by simpa using hv'
      simp only [ha, Instr.extract, this, Sem.run_pure]
    · cases e
  · -- typeAssert
    rename_i x xt asserted ok
    split at e
    · rename_i d hx hd
      simp only [Option.map_eq_some_iff] at e
      obtain ⟨z, hz, hh⟩ := e; cases hh
      have h1 := hρ _ _ hx
      have ha : ρ' x = .nilIface := by generalize ρ' x = z at h1; cases h1; rfl
      refine OpR.pure r (.tuple (.cons (zero_closed hz) (.cons (.bool false) .nil))) (v_run ?_)
      simp only [ha, Instr.typeAssert, Sem.run_bind, run_underlying' hd, Result.andThen_ok]
      cases d <;> simp only [if_true, Sem.run_bind, run_zero' hz, Result.andThen_ok, Sem.run_pure]
    · rename_i t v d hx hd
      have h1 := hρ _ _ hx
      obtain ⟨v', ha, hv⟩ : ∃ v', ρ' x = .iface t v' ∧ VR σ v v' := by
        generalize ρ' x = z at h1
        cases h1 with
        | iface hv => exact ⟨_, rfl, hv⟩
      split at e
      · cases e
      · rename_i hni
        split at e
        · rename_i ht
          simp only [Nat.beq_eq] at ht
          subst ht
          cases e
          refine OpR.pure r (.tuple (.cons hv (.cons (.bool true) .nil))) (v_run ?_)
          simp only [ha, Instr.typeAssert, Sem.run_bind, run_underlying' hd, Result.andThen_ok]
          cases d <;> first | exact absurd rfl (hni _) | simp only [if_true, Sem.run_pure]
        · rename_i ht
          simp only [Nat.beq_eq] at ht
          simp only [Option.map_eq_some_iff] at e
          obtain ⟨z, hz, hh⟩ := e; cases hh
          refine OpR.pure r (.tuple (.cons (zero_closed hz) (.cons (.bool false) .nil))) (v_run ?_)
          simp only [ha, Instr.typeAssert, Sem.run_bind, run_underlying' hd, Result.andThen_ok]
          cases d <;> first | exact absurd rfl (hni _) | simp only [if_neg ht, if_true, Sem.run_bind, run_zero' hz, Result.andThen_ok, Sem.run_pure]
    · cases e
  · -- call
    exact call_sound r hN hρ e
  · -- defer
    simp only [Option.map_eq_some_iff] at e
    obtain ⟨d, hd, hh⟩ := e; cases hh
    obtain ⟨d', h1, h2⟩ := defer_sound (P := P) hρ hd ty w
    exact ⟨rfl, d', by simp only [execOp, Sem.run_bind, h1, Result.andThen_ok, Sem.run_pure], h2⟩
  · cases e

end
end Go.Proofs.YtmcmaklilfgdiaaGreat.Ev
