/- Each operation of the evaluator is the machine's: values. -/
import Derived.Test.YtmcmaklilfgdiaaGreatEc
namespace Go.Proofs.YtmcmaklilfgdiaaGreat.Ev
open Go Go.RowKit

section
variable {P : Program} {σ : Sg} {w0 : Bs} {h : AH} {w : World}

theorem run_typeInfo' {t : TypeId} {i : TypeInfo} (hi : P.info? t = some i) (w : World) : (typeInfo t).run P w = .ok i w := by simp [typeInfo, hi]
theorem run_underlying' {t : TypeId} {d : TypeDesc} (hi : P.underlying t = some d) (w : World) : (underlying t).run P w = .ok d w := by simp [underlying, hi]
theorem run_sizeOf' {t : TypeId} {n : Nat} (hi : sizeE P t = some n) (w : World) : (sizeOf t).run P w = .ok n w := by
  unfold sizeE at hi
  cases hx : P.info? t with
  | none => simp [hx] at hi
  | some i => simp [hx] at hi; simp [sizeOf, run_typeInfo' hx, hi]
theorem run_zero' {t : TypeId} {z : Value} (hi : zeroE P t = some z) (w : World) : (zeroValue t).run P w = .ok z w := by
  unfold zeroE at hi
  split at hi
  · rename_i i hx
    split at hi
    · rename_i v hz
      split at hi
      · cases hi; simp [zeroValue, run_typeInfo' hx, hz]
      · cases hi
    · cases hi
  · cases hi
theorem zero_closed {t : TypeId} {z : Value} (hi : zeroE P t = some z) : VR σ z z := by
  unfold zeroE at hi
  split at hi
  · split at hi
    · split at hi
      · rename_i hc; cases hi; exact VR.closed hc
      · cases hi
    · cases hi
  · cases hi
theorem run_isAgg' {t : TypeId} {b : Bool} (hi : isAggE P t = some b) (w : World) : (isAgg t).run P w = .ok b w := by
  unfold isAggE at hi
  split at hi
  · rename_i hx; cases hi; simp [isAgg, run_underlying' hx]
  · rename_i hx; cases hi; simp [isAgg, run_underlying' hx]
  · rename_i d h1 h2 hx
    cases hi
    simp only [isAgg, Sem.run_bind, run_underlying' hx, Result.andThen_ok]
    cases d <;> first | exact absurd rfl (h1 _) | exact absurd rfl (h2 _ _) | rfl
  · cases hi

/-- The abstract pointer and the machine's. -/
theorem ptr_inv {b i : Nat} {v' : Value} (h : VR σ (.pointer (some ⟨b, i, none⟩)) v') : ∃ p, pl σ b = some p ∧ v' = .pointer (some ⟨p.blk, p.off + i, none⟩) := by
  cases h; exact ⟨_, ‹_›, rfl⟩

theorem load_sound (r : R w0 σ h w) {t : TypeId} {a a' v : Value} (e : loadE P h t a = some v) (ha : VR σ a a') :
    ∃ v', (Instr.loadAt t a').run P w = .ok v' w ∧ VR σ v v' ∧ ∃ x, a' = .pointer (some x) ∧ (loadVar t x).run P w = .ok v' w := by
  unfold loadE at e
  split at e
  · rename_i b i
    obtain ⟨p, hp, rfl⟩ := ptr_inv ha
    split at e
    · rename_i hagg
      split at e
      · rename_i n hn
        simp only [Option.map_eq_some_iff] at e
        obtain ⟨l, hl, rfl⟩ := e
        obtain ⟨l', hrun, hv, hlen, _⟩ := r.readN (P := P) hl hp
        have hlv : (loadVar t ⟨p.blk, p.off + i, none⟩).run P w = .ok (.agg ⟨l'⟩) w := by
          simp [loadVar, run_isAgg' hagg, run_sizeOf' hn, hrun]
        exact ⟨.agg ⟨l'⟩, by simp [Instr.loadAt, Instr.sureAddr, hlv], .agg hv, _, rfl, hlv⟩
      · cases e
    · rename_i hagg
      split at e
      · rename_i vs hvs
        obtain ⟨v', hc, hv⟩ := r.read1 hvs hp e
        have hlv : (loadVar t ⟨p.blk, p.off + i, none⟩).run P w = .ok v' w := by
          simp [loadVar, run_isAgg' hagg, hc]
        exact ⟨v', by simp [Instr.loadAt, Instr.sureAddr, hlv], hv, _, rfl, hlv⟩
      · cases e
    · cases e
  · cases e

theorem store_sound (r : R w0 σ h w) {t : TypeId} {a a' v v' : Value} {h' : AH} (e : storeE P h t a v = some h') (ha : VR σ a a') (hv : VR σ v v') :
    ∃ w', (Instr.storeAt t a' v').run P w = .ok () w' ∧ R w0 σ h' w' := by
  unfold storeE at e
  split at e
  · rename_i b i
    obtain ⟨p, hp, rfl⟩ := ptr_inv ha
    split at e
    · rename_i n hn
      split at e
      · rename_i hlen
        have hc := hv.cells
        obtain ⟨w', hrun, r', _⟩ := r.writeN P e hc hp
        have hsz : v'.cells.size = n := by
          have := hc.length
          simp only [Nat.beq_eq] at hlen
          rw [← Array.length_toList]; omega
        refine ⟨w', ?_, r'⟩
        simp [Instr.storeAt, Instr.sureAddr, storeVar, run_sizeOf' hn, hsz, hrun]
      · cases e
    · cases e
  · cases e

theorem new_sound (r : R w0 σ h w) (T : TypeId) {vs vs' : List Value} (hv : VRs σ vs vs') (esz : Nat) (room : Nat) (spare : List Value) (hroom : room = vs'.length + spare.length) :
    ∃ p : Pl, p.blk = w.heap.size ∧ p.off = 0 ∧ p.room = room ∧ p.esz = esz ∧ R w0 (σ ++ [some p]) (h.push (.cells vs esz)) (w.alloc (.cells ⟨vs' ++ spare⟩ T)) := by
  refine ⟨⟨w.heap.size, 0, room, esz, 0⟩, rfl, rfl, rfl, rfl, r.alloc _ _ _ rfl ?_⟩
  refine ⟨rfl, r.okn, _, T, (0, 0), rfl, by simp [hroom], by simp only [hroom, hv.length]; omega, .inl rfl, ?_⟩
  intro i v hi
  obtain ⟨v', hv', hr⟩ := hv.get hi
  refine ⟨v', ?_, hr.mono (Ext.snoc _ _)⟩
  have := (List.getElem?_eq_some_iff.1 hv').1
  simp only [Nat.zero_add]
  rw [List.getElem?_toArray, List.getElem?_append_left this]; exact hv'

theorem get_new (r : R w0 σ h w) (p : Pl) : pl (σ ++ [some p]) h.n = some p := by rw [← r.sl, pl_new]

/-- a new variable -/
theorem box_sound (r : R w0 σ h w) (T : TypeId) {v v' : Value} (hv : VR σ v v') :
    ∃ σ' w' u', Ext σ σ' ∧ R w0 σ' (h.push (.cells (cellsL v) 0)) w' ∧ (Instr.box T v').run P w = .ok u' w' ∧ VR σ' (.pointer (some ⟨h.n, 0, none⟩)) u' := by
  obtain ⟨p, hp, ho, hr, he, r'⟩ := new_sound r T hv.cells 0 _ [] rfl
  refine ⟨σ ++ [some p], _, .pointer (some ⟨p.blk, p.off + 0, none⟩), Ext.snoc _ _, r', ?_, .ptr (get_new r p)⟩
  have hl : (⟨v'.cells.toList ++ []⟩ : Array Value) = v'.cells := by simp
  rw [hl]
  simp [Instr.box, newVar, newRow, hp, ho]

theorem alloc_sound (r : R w0 σ h w) {T : TypeId} {z : Value} (hz : zeroE P T = some z) :
    ∃ σ' w' u', Ext σ σ' ∧ R w0 σ' (h.push (.cells (cellsL z) 0)) w' ∧ (Instr.alloc T true (.tuple #[])).run P w = .ok u' w' ∧ VR σ' (.pointer (some ⟨h.n, 0, none⟩)) u' := by
  obtain ⟨σ', w', u', h1, h2, h3, h4⟩ := box_sound (P := P) r T (zero_closed (σ := σ) hz)
  refine ⟨σ', w', u', h1, h2, ?_, h4⟩
  simpa [Instr.alloc, Instr.box, run_zero' hz] using h3

theorem binInt_sound {op : BinOp} {t : TypeId} {k k' : IntKind} {a b : Int} {v : Value} (e : plainOp P (binOp op t (.int k a) (.int k' b)) = some v) (w : World) :
    (binOp op t (.int k a) (.int k' b)).run P w = .ok v w ∧ simpleV v = true := by
  unfold plainOp at e
  by_cases hk : k = k' <;> by_cases hb : b = 0 <;> by_cases hn : b < 0 <;> cases op <;>
    simp [binOp, Op.shift, Op.intArith, Op.intDiv, Op.intBits, Op.intCmp, runtimePanic, hk, hb, hn] at e ⊢ <;>
    (subst e; simp [simpleV])

theorem intE_sound {op : BinOp} {t : TypeId} {k : IntKind} {a b : Int} {v : Value} (e : intE op k a b = some v) (w : World) :
    (binOp op t (.int k a) (.int k b)).run P w = .ok v w ∧ simpleV v = true := by
  cases op <;> simp only [intE, reduceCtorEq, Option.some.injEq] at e <;> subst e <;> refine ⟨?_, rfl⟩ <;>
    simp [binOp, Op.intArith, Op.intCmp] <;> rfl

theorem binStr_sound {op : BinOp} {t : TypeId} {a b : ByteArray} {v : Value} (e : plainOp P (binOp op t (.string a) (.string b)) = some v) (w : World) :
    (binOp op t (.string a) (.string b)).run P w = .ok v w ∧ simpleV v = true := by
  unfold plainOp at e
  by_cases hk : ((a.size + b.size : Nat) : Int) > IntKind.i64.max <;> cases op <;>
    simp only [binOp, Op.stringOp, hk, if_true, if_false, run_unsupported, Sem.run_pure, run_stuck, reduceCtorEq, Option.some.injEq] at e ⊢ <;>
    (subst e; exact ⟨rfl, rfl⟩)

theorem un_sound {op : UnOp} {v u : Value} (e : plainOp P (Op.unary op v) = some u) (hv : (∃ k n, v = .int k n) ∨ ∃ b, v = .bool b) (w : World) :
    (Op.unary op v).run P w = .ok u w ∧ simpleV u = true := by
  unfold plainOp at e
  rcases hv with ⟨k, n, rfl⟩ | ⟨b, rfl⟩ <;> cases op <;>
    simp only [Op.unary, Op.intArith, Op.intBits, Sem.run_pure, run_stuck, reduceCtorEq, Option.some.injEq] at e ⊢ <;>
    (subst e; exact ⟨rfl, rfl⟩)

theorem eqGuard_plain (op : BinOp) (t : TypeId) (x y : Operand) (a b : Value) (h : (∀ c, a ≠ .agg c) ∧ a ≠ .nilIface) (w : World) : (eqGuard op t x y a b).run P w = .ok () w := by
  cases a <;> first | exact absurd rfl (h.1 _) | exact absurd rfl h.2 | (cases op <;> rfl)

theorem eql_sound {t : TypeId} {x y x' y' : Value} {b : Bool} (hx : VR σ x x') (hy : VR σ y y') (e : eqlE x y = some b)
    {d : TypeDesc} (hd : P.underlying t = some d) (hk : kindOK d x = true) (w : World) :
    (binOp .eql t x' y').run P w = .ok (.bool b) w ∧ (binOp .neq t x' y').run P w = .ok (.bool (!b)) w ∧ (∀ c, x' ≠ .agg c) ∧ x' ≠ .nilIface := by
  have key : (Op.equal t x' y').run P w = .ok b w := by
    obtain ⟨n, hm⟩ : ∃ n, Op.maxDepth = n + 1 := ⟨9999, rfl⟩
    unfold Op.equal
    rw [hm]; clear hm
    unfold eqlE at e
    split at e <;> (try cases e) <;> cases hx <;> cases hy <;> cases d <;> simp only [kindOK, Bool.false_eq_true, reduceCtorEq] at hk <;>
      (simp only [Op.equalIn, Sem.run_bind, run_underlying' hd, Result.andThen_ok]; rfl)
  have h1 : (binOp .eql t x' y') = (do pure (.bool (← Op.equal t x' y')) : Sem Value) := by
    unfold eqlE at e
    split at e <;> (try cases e) <;> cases hx <;> cases hy <;> rfl
  have h2 : (binOp .neq t x' y') = (do pure (.bool (!(← Op.equal t x' y'))) : Sem Value) := by
    unfold eqlE at e
    split at e <;> (try cases e) <;> cases hx <;> cases hy <;> rfl
  refine ⟨by rw [h1]; simp [key], by rw [h2]; simp [key], ?_⟩
  unfold eqlE at e
  split at e <;> (try cases e) <;> cases hx <;> exact ⟨fun _ hh => (by cases hh), fun hh => (by cases hh)⟩

end
end Go.Proofs.YtmcmaklilfgdiaaGreat.Ev
