/- Equality and maps. -/
import Derived.Test.YtmcmaklilfgdiaaGreatEi
import Derived.Laws.StructEq
namespace Go.Proofs.YtmcmaklilfgdiaaGreat.Ev
open Go Go.RowKit

section
variable {P : Program} {w0 : Bs} {σ : Sg} {h : AH} {w : World}

theorem scalar_eq {v v' : Value} (hv : scalarV v = true) (h : VR σ v v') : v' = v := by
  cases v <;> simp [scalarV] at hv <;> cases h <;> rfl

theorem scalars_eq : ∀ {l l' : List Value}, l.all scalarV = true → VRs σ l l' → l' = l
  | _, _, _, .nil => rfl
  | _, _, hl, .cons h t => by
    simp only [List.all_cons, Bool.and_eq_true] at hl
    rw [scalar_eq hl.1 h, scalars_eq hl.2 t]

theorem closedK_eq {v v' : Value} (hv : closedK v = true) (h : VR σ v v') : v' = v := by
  unfold closedK at hv
  split at hv
  · cases h with
    | agg h => rw [scalars_eq hv h]
  · exact scalar_eq hv h

theorem scalar_refl {v : Value} (hv : scalarV v = true) : VR σ v v := by
  cases v <;> simp [scalarV] at hv <;> constructor

theorem scalars_refl : ∀ {l : List Value}, l.all scalarV = true → VRs σ l l
  | [], _ => .nil
  | v :: l, hl => by
    simp only [List.all_cons, Bool.and_eq_true] at hl
    exact .cons (scalar_refl hl.1) (scalars_refl hl.2)

theorem part_closed {t : TypeId} {cs : List Value} {off : Nat} {v : Value} (hc : cs.all scalarV = true) (e : partE P t cs off = some v) (w : World) :
    (part t ⟨cs⟩ off).run P w = .ok v w ∧ closedK v = true := by
  have hk : closedK v = true := by
    unfold partE at e
    split at e
    · split at e
      · cases e
        simp only [closedK, List.all_eq_true] at hc ⊢
        exact fun x hx => hc x (List.mem_of_mem_drop (List.mem_of_mem_take hx))
      · cases e
    · have := List.all_eq_true.1 hc v (List.mem_of_getElem? e)
      cases v <;> simp [scalarV] at this <;> rfl
    · cases e
  obtain ⟨v', h1, h2⟩ := part_sound (P := P) (σ := ⟨[], fun _ _ => none⟩) (scalars_refl hc) e w
  rw [closedK_eq hk h2] at h1
  exact ⟨h1, hk⟩

theorem fieldsOf_eq {t : TypeId} {fields : Array Field} (h : P.underlying t = some (.struct fields)) : P.fieldsOf t = fields := by
  simp [Program.fieldsOf, h]

theorem eqFs_sound {f : TypeId → Value → Value → Option Bool} {D : Nat} {xs ys : List Value} (hx : xs.all scalarV = true) (hy : ys.all scalarV = true) (w : World)
    (hf : ∀ {t x y b}, f t x y = some b → closedK x = true → closedK y = true → (Op.equalIn D t x y).run P w = .ok b w) :
    ∀ {fs : List Field} {b : Bool}, eqFs P f xs ys fs = some b → (Op.eqFields D ⟨xs⟩ ⟨ys⟩ fs).run P w = .ok b w
  | [], b, e => by simp only [eqFs, Option.some.injEq] at e; subst e; simp [Op.eqFields]
  | d :: r, b, e => by
    simp only [eqFs] at e
    simp only [Op.eqFields, Sem.run_ite]
    split at e
    · rename_i hn
      rw [if_pos hn]
      split at e
      · rename_i va vb ha hb
        obtain ⟨ra, ka⟩ := part_closed (P := P) hx ha w
        obtain ⟨rb, kb⟩ := part_closed (P := P) hy hb w
        split at e
        · rename_i hh
          simp only [Sem.run_bind, ra, rb, hf hh ka kb, Result.andThen_ok, Bool.not_true, Bool.false_eq_true, if_false]
          exact eqFs_sound hx hy w hf e
        · rename_i hh
          cases e
          simp only [Sem.run_bind, ra, rb, hf hh ka kb, Result.andThen_ok, Bool.not_false, if_true, Sem.run_pure]
        · cases e
      · cases e
    · rename_i hn
      rw [if_neg hn]
      exact eqFs_sound hx hy w hf e

theorem eqVE_sound : ∀ (d : Nat) {t : TypeId} {x y : Value} {b : Bool}, eqVE P d t x y = some b → closedK x = true → closedK y = true → ∀ (k : Nat) (w : World), (Op.equalIn (d + k) t x y).run P w = .ok b w
  | 0, t, x, y, b, e, _, _, k, w => by simp [eqVE] at e
  | d + 1, t, x, y, b, e, hx, hy, k, w => by
    rw [show d + 1 + k = (d + k) + 1 by omega]
    simp only [eqVE] at e
    split at e
    · rename_i a c hd
      cases e
      exact run_equalIn_bool' w _ t a c hd
    · rename_i k1 k2 a k3 c hd
      split at e
      · rename_i hk; subst hk; cases e
        exact run_equalIn_int w _ t _ _ a c hd
      · cases e
    · rename_i a c hd
      cases e
      rw [run_equalIn_string w _ t a c hd, beq_toListBytes]
    · rename_i fields xs ys hd
      split at e
      · cases e
      · rename_i hs
        have hfo := fieldsOf_eq hd
        rw [run_equalIn_struct w (d + k) t ⟨xs⟩ ⟨ys⟩ (by rw [hfo]; exact hd) (by simpa using hs), hfo]
        exact eqFs_sound hx hy w (fun e1 h1 h2 => eqVE_sound d e1 h1 h2 k w) e
    · cases e

theorem checkFs_sound {f : TypeId → Value → Bool} {em : Bool} {D : Nat} {cs : List Value} (hc : cs.all scalarV = true) (w : World)
    (hf : ∀ {t v}, f t v = true → closedK v = true → (Instr.checkKey em D t v).run P w = .ok () w) :
    ∀ {fs : List Field}, checkFs P f cs fs = true → (forIn fs PUnit.unit (fun (f : Field) (_ : PUnit) => (if f.name ≠ "_" then do
        let v ← part f.type ⟨cs⟩ f.offset
        Instr.checkKey em D f.type v
        pure (ForInStep.yield PUnit.unit)
      else pure (ForInStep.yield PUnit.unit) : Sem (ForInStep PUnit)))).run P w = .ok PUnit.unit w
  | [], _ => by simp
  | d :: r, e => by
    simp only [checkFs, Bool.and_eq_true] at e
    obtain ⟨e1, e2⟩ := e
    have ih := checkFs_sound hc w hf e2
    rw [List.forIn_cons]
    split at e1
    · rename_i hn
      split at e1
      · rename_i v hv
        obtain ⟨ra, ka⟩ := part_closed (P := P) hc hv w
        simp only [Sem.run_bind, if_pos hn, ra, hf e1 ka, Result.andThen_ok, Sem.run_pure]
        exact ih
      · cases e1
    · rename_i hn
      simp only [if_neg hn, Sem.run_bind, Result.andThen_ok, Sem.run_pure]
      exact ih

theorem checkKE_sound (em : Bool) : ∀ (d : Nat) {t : TypeId} {v : Value}, checkKE P d t v = true → closedK v = true → ∀ (k : Nat) (w : World), (Instr.checkKey em (d + k) t v).run P w = .ok () w
  | 0, t, v, e, _, k, w => by simp [checkKE] at e
  | d + 1, t, v, e, hv, k, w => by
    rw [show d + 1 + k = (d + k) + 1 by omega]
    simp only [checkKE] at e
    split at e
    · rename_i b hd; simp [Instr.checkKey, run_underlying' hd]
    · rename_i k1 k2 b hd; simp [Instr.checkKey, run_underlying' hd]
    · rename_i b hd; simp [Instr.checkKey, run_underlying' hd]
    · rename_i fields cs hd
      simp only [Instr.checkKey, Sem.run_bind, run_underlying' hd, Result.andThen_ok]
      rw [← Array.forIn_toList]
      have := checkFs_sound hv w (fun e1 h1 => checkKE_sound em d e1 h1 k w) e
      rw [this]
      simp
    · cases e

/-- what was found -/
def OR (σ : Sg) : Option (Nat × Value) → Option (Nat × Value) → Prop
  | none, none => True
  | some (i, v), some (j, v') => i = j ∧ VR σ v v'
  | _, _ => False

theorem sameNow_eq {kt : TypeId} {d : TypeDesc} (hd : P.underlying kt = some d) {k k' : Value} {b b' : Bool} {n : Nat} (e : eqVE P (n + 1) kt k k' = some b) (s : Instr.sameNow d k k' = some b') : b' = b := by
  simp only [eqVE] at e
  rw [hd] at e
  unfold Instr.sameNow at s
  split at s
  · split at s
    · rename_i hk; subst hk; cases s
      simp at e; exact e
    · cases s
  · cases s; simp at e; exact e
  · cases s; simp at e; exact e
  · cases s

theorem findNow_sound {kt : TypeId} {d : TypeDesc} (hd : P.underlying kt = some d) {k : Value} : ∀ {es : List (Value × Value × Nat)} {es' : List MapEntry} {i : Nat} {x x' : Option (Nat × Value)}, ERs σ es es' →
    findE P kt k es i = some x → Instr.findNow d k es' i = some x' → OR σ x x'
  | _, _, i, x, x', .nil, e, e' => by cases e; cases e'; trivial
  | _, _, i, x, x', .cons hk he hb hv t, e, e' => by
    simp only [findE] at e
    simp only [Instr.findNow, he] at e'
    split at e
    · rename_i hq
      cases e
      split at e'
      · cases e'; exact ⟨rfl, hv⟩
      · rename_i hs; have := sameNow_eq hd hq hs; cases this
      · cases e'
    · rename_i hq
      split at e'
      · rename_i hs; have := sameNow_eq hd hq hs; cases this
      · exact findNow_sound hd t e e'
      · cases e'
    · cases e

theorem findAsking_sound {kt : TypeId} {k : Value} (hk0 : closedK k = true) (w : World) : ∀ {es : List (Value × Value × Nat)} {es' : List MapEntry} {i : Nat} {x : Option (Nat × Value)}, ERs σ es es' →
    findE P kt k es i = some x → ∃ x', (Instr.findAsking kt k es' i).run P w = .ok x' w ∧ OR σ x x'
  | _, _, i, x, .nil, e => by cases e; exact ⟨none, by simp [Instr.findAsking], trivial⟩
  | _, _, i, x, .cons hk he hb hv t, e => by
    simp only [findE] at e
    simp only [Instr.findAsking, he]
    have hq : ∀ {b}, eqVE P 100 kt k _ = some b → (Op.equal kt k _).run P w = .ok b w := fun {b} hh => eqVE_sound 100 hh hk0 hk 9900 w
    split at e
    · rename_i hh
      cases e
      exact ⟨some (i, _), by simp only [Sem.run_bind, hq hh, Result.andThen_ok, if_true, Sem.run_pure], rfl, hv⟩
    · rename_i hh
      obtain ⟨x', h1, h2⟩ := findAsking_sound hk0 w t e
      exact ⟨x', by simp only [Sem.run_bind, hq hh, Result.andThen_ok, Bool.false_eq_true, if_false]; exact h1, h2⟩
    · cases e

theorem findKey_sound {kt : TypeId} {d : TypeDesc} (hd : P.underlying kt = some d) {k : Value} (hk0 : closedK k = true) (w : World) {es : List (Value × Value × Nat)} {es' : List MapEntry} {x : Option (Nat × Value)} (hes : ERs σ es es')
    (e : findE P kt k es 0 = some x) : ∃ x', (Instr.findKey kt k es').run P w = .ok x' w ∧ OR σ x x' := by
  unfold Instr.findKey
  simp only [Sem.run_bind, run_underlying' hd, Result.andThen_ok]
  cases hn : Instr.findNow d k es' 0 with
  | some x' => exact ⟨x', by simp, findNow_sound hd hes e hn⟩
  | none =>
    obtain ⟨x', h1, h2⟩ := findAsking_sound hk0 w hes e
    exact ⟨x', h1, h2⟩

theorem checkKE_desc {kt : TypeId} {k : Value} (h : checkKE P 100 kt k = true) : ∃ d, P.underlying kt = some d := by
  cases hd : P.underlying kt with
  | some d => exact ⟨d, rfl⟩
  | none => simp [checkKE, hd] at h

theorem lookup_sound (r : R w0 σ h w) {t : TypeId} {x x' k k' v : Value} {ok : Bool} (hx : VR σ x x') (hk : VR σ k k') (e : lookupE P h t x k ok = some v) :
    ∃ v', (Instr.lookup t x' k' ok).run P w = .ok v' w ∧ VR σ v v' := by
  unfold lookupE at e
  split at e
  · rename_i kt et hd
    split at e
    · rename_i hkk
      simp only [Bool.and_eq_true] at hkk
      have hkeq := closedK_eq hkk.1 hk
      subst hkeq
      obtain ⟨d, hkd⟩ := checkKE_desc hkk.2
      split at e
      · rename_i es hes
        have hm : ∃ es' : List MapEntry, ERs σ es es' ∧ ((x' = .map none ∧ es' = []) ∨ ∃ b c, x' = .map (some b) ∧ (getObj b).run P w = .ok (.map ⟨es'⟩ c) w) := by
          split at hes
          · cases hes; cases hx
            exact ⟨[], .nil, .inl ⟨rfl, rfl⟩⟩
          · split at hes
            · rename_i hg
              cases hes
              cases hx with
              | map hp =>
                obtain ⟨_, es', ho, hrs⟩ := r.br _ _ _ hg hp
                exact ⟨es', hrs, .inr ⟨_, _, rfl, by simp [getObj, Sem.run, ho]; rfl⟩⟩
            · cases hes
          · cases hes
        obtain ⟨es', hrs, hrun⟩ := hm
        have hck : ∀ em, (Instr.checkKey em 10000 kt k').run P w = .ok () w := fun em => checkKE_sound em 100 hkk.2 hkk.1 9900 w
        split at e
        · rename_i i u hf
          obtain ⟨x2, g1, g2⟩ := findKey_sound hkd hkk.1 w hrs hf
          cases e
          cases x2 with
          | none => exact g2.elim
          | some y =>
            obtain ⟨j, u'⟩ := y
            refine ⟨if ok then .tuple #[u', .bool true] else u', ?_, ?_⟩
            · rcases hrun with ⟨rfl, rfl⟩ | ⟨b, c, rfl, hget⟩
              · simp only [Instr.lookup, Sem.run_bind, run_underlying' hd, Result.andThen_ok, hck, g1, Sem.run_pure]
              · simp only [Instr.lookup, Sem.run_bind, run_underlying' hd, Result.andThen_ok, hget, hck, g1, Sem.run_pure]
            · cases ok
              · exact g2.2
              · exact .tuple (.cons g2.2 (.cons (.bool true) .nil))
        · rename_i hf
          obtain ⟨x2, g1, g2⟩ := findKey_sound hkd hkk.1 w hrs hf
          split at e
          · rename_i z hz
            cases e
            cases x2 with
            | some y => exact g2.elim
            | none =>
              refine ⟨if ok then .tuple #[z, .bool false] else z, ?_, ?_⟩
              · rcases hrun with ⟨rfl, rfl⟩ | ⟨b, c, rfl, hget⟩
                · simp only [Instr.lookup, Sem.run_bind, run_underlying' hd, Result.andThen_ok, hck, g1, Sem.run_pure, run_zero' hz]
                · simp only [Instr.lookup, Sem.run_bind, run_underlying' hd, Result.andThen_ok, hget, hck, g1, Sem.run_pure, run_zero' hz]
              · cases ok
                · exact zero_closed hz
                · exact .tuple (.cons (zero_closed hz) (.cons (.bool false) .nil))
          · cases e
        · cases e
      · cases e
    · cases e
  · cases e

theorem ERs.set : ∀ {l : List (Value × Value × Nat)} {l' : List MapEntry}, ERs σ l l' → ∀ {i : Nat} {k v v' old oldv : Value} {born : Nat}, l[i]? = some (old, oldv, born) → closedK k = true → VR σ v v' →
    ERs σ (l.set i (k, v, born)) (l'.modify i fun e => { e with key := k, val := v' })
  | _, _, .nil, i, _, _, _, _, _, _, h, _, _ => by simp at h
  | _, _, .cons hk he hb hv t, 0, k, v, v', old, oldv, born, h, hk2, hv2 => by
    simp at h
    obtain ⟨_, _, rfl⟩ := h
    simp only [List.set_cons_zero, List.modify_zero_cons]
    exact .cons hk2 rfl hb hv2 t
  | _, _, .cons hk he hb hv t, i + 1, k, v, v', old, oldv, born, h, hk2, hv2 => by
    simp at h
    simp only [List.set_cons_succ, List.modify_succ_cons]
    exact .cons hk he hb hv (ERs.set t h hk2 hv2)

theorem ERs.key : ∀ {l : List (Value × Value × Nat)} {l' : List MapEntry}, ERs σ l l' → ∀ {i : Nat} {k v : Value} {n : Nat}, l[i]? = some (k, v, n) → ∃ e, l'[i]? = some e ∧ e.key = k
  | _, _, .nil, i, _, _, _, h => by simp at h
  | _, _, .cons hk he hb hv t, 0, k, v, n, h => by
    simp at h
    obtain ⟨rfl, _, _⟩ := h
    exact ⟨_, rfl, he⟩
  | _, _, .cons hk he hb hv t, i + 1, k, v, n, h => by
    simp at h ⊢
    exact ERs.key t h

theorem ERs.snoc : ∀ {l : List (Value × Value × Nat)} {l' : List MapEntry}, ERs σ l l' → ∀ {k v v' : Value} {n : Nat}, closedK k = true → VR σ v v' → ERs σ (l ++ [(k, v, n)]) (l' ++ [{ key := k, val := v', born := n }])
  | _, _, .nil, _, _, _, _, hk, hv => .cons hk rfl rfl hv .nil
  | _, _, .cons hk he hb hv t, _, _, _, _, hk2, hv2 => .cons hk he hb hv (ERs.snoc t hk2 hv2)

theorem mapUpdate_sound (r : R w0 σ h w) {t : TypeId} {m m' k k' v v' : Value} {h' : AH} (hm : VR σ m m') (hk : VR σ k k') (hv : VR σ v v') (e : mapUpdateE P h t m k v = some h') :
    ∃ w', (Instr.mapUpdate t m' k' v').run P w = .ok () w' ∧ R w0 σ h' w' := by
  unfold mapUpdateE at e
  split at e
  · rename_i kt et rr hd
    split at e
    · rename_i hkk
      simp only [Bool.and_eq_true] at hkk
      have hkeq := closedK_eq hkk.1 hk
      subst hkeq
      obtain ⟨d, hkd⟩ := checkKE_desc hkk.2
      have hck : ∀ em, (Instr.checkKey em 10000 kt k').run P w = .ok () w := fun em => checkKE_sound em 100 hkk.2 hkk.1 9900 w
      split at e
      · rename_i es clock hg
        cases hm with
        | map hp =>
          rename_i p
          obtain ⟨hN0, es', ho, hrs⟩ := r.br _ _ _ hg hp
          have hlt : p.blk < w.heap.size := (Array.getElem?_eq_some_iff.1 ho).1
          have hget : (getObj p.blk).run P w = .ok (.map ⟨es'⟩ clock) w := by simp [getObj, Sem.run, ho]
          have turn : ∀ {l : List (Value × Value × Nat)} {l' : List MapEntry} {c : Nat}, ERs σ l l' → R w0 σ (h.set rr (.map l c)) { w with heap := w.heap.setIfInBounds p.blk (.map ⟨l'⟩ c) } := by
            intro l l' c hl
            exact r.turn (b' := .map l c) (w' := { w with heap := w.heap.setIfInBounds p.blk (.map ⟨l'⟩ c) }) hg rfl hp (by simp) rfl rfl rfl (fun k hk => by
              show (w.heap.setIfInBounds p.blk _)[k]? = _
              rw [Array.getElem?_setIfInBounds_ne (fun hh => hk hh.symm)]) ⟨hN0, l', by
              show (w.heap.setIfInBounds p.blk _)[p.blk]? = _
              rw [Array.getElem?_setIfInBounds_self_of_lt hlt], hl⟩
          have hset : ∀ x, (setObj p.blk x).run P w = .ok () { w with heap := w.heap.setIfInBounds p.blk x } := by intro x; simp [setObj, Sem.run, ho]
          split at e
          · rename_i i u hf
            obtain ⟨x2, g1, g2⟩ := findKey_sound hkd hkk.1 w hrs hf
            cases x2 with
            | none => exact g2.elim
            | some y =>
              obtain ⟨j, u'⟩ := y
              obtain ⟨rfl, _⟩ := g2
              split at e
              · rename_i old oldv born hi
                split at e
                · rename_i hsb
                  cases e
                  refine ⟨_, ?_, turn (l' := es'.modify i fun e => { e with key := k', val := v' }) (hrs.set hi hkk.1 hv)⟩
                  obtain ⟨en, hen, hkey⟩ := hrs.key hi
                  have hen' : (⟨es'⟩ : Array MapEntry)[i]? = some en := by simpa using hen
                  simp only [Instr.mapUpdate, Sem.run_bind, run_underlying' hd, Result.andThen_ok, hget, hck, g1, hen', Option.map_some, Option.getD_some, hkey, Instr.keyThatStays, hsb, if_true, Sem.run_pure, hset]
                  congr 3
                  simp
                · cases e
              · cases e
          · rename_i hf
            obtain ⟨x2, g1, g2⟩ := findKey_sound hkd hkk.1 w hrs hf
            cases x2 with
            | some y => exact g2.elim
            | none =>
              cases e
              refine ⟨_, ?_, turn (hrs.snoc (n := clock) hkk.1 hv)⟩
              simp only [Instr.mapUpdate, Sem.run_bind, run_underlying' hd, Result.andThen_ok, hget, hck, g1, hset]
              congr 3
              simp
          · cases e
      · cases e
    · cases e
  · cases e

theorem struct_sound {t : TypeId} {x y x' y' : Value} {b : Bool} (hx : VR σ x x') (hy : VR σ y y') (e : structE P t x y = some b) (w : World) :
    (binOp .eql t x' y').run P w = .ok (.bool b) w ∧ (binOp .neq t x' y').run P w = .ok (.bool (!b)) w ∧ ∀ op xo yo, (eqGuard op t xo yo x' y').run P w = .ok () w := by
  unfold structE at e
  split at e
  · rename_i xs ys
    split at e
    · rename_i hh
      simp only [Bool.and_eq_true, Bool.not_eq_true'] at hh
      have h1 := closedK_eq (v := .agg ⟨xs⟩) hh.1.1 hx
      have h2 := closedK_eq (v := .agg ⟨ys⟩) hh.1.2 hy
      subst h1 h2
      have hq : (Op.equalIn 10000 t (.agg ⟨xs⟩) (.agg ⟨ys⟩)).run P w = .ok b w := eqVE_sound 100 e hh.1.1 hh.1.2 9900 w
      refine ⟨?_, ?_, fun op xo yo => run_eqGuard_agg w op t xo yo ⟨xs⟩ ⟨ys⟩ hh.2⟩
      · rw [run_eql_struct, hq]; rfl
      · rw [run_neq_struct, hq]; rfl
    · cases e
  · cases e

end
end Go.Proofs.YtmcmaklilfgdiaaGreat.Ev
