/- A region that draws its order: blocks that are made later. -/
import Derived.Test.YtmcmaklilfgdiaaGreatEp
namespace Go.Proofs.YtmcmaklilfgdiaaGreat.Ev
open Go Go.RowKit

section
variable {P : Program} {σ : Sg} {b0 : Bs} {h : AH} {w : World}

theorem R.weaken (r : R b0 σ h w) {U : Nat → Prop} (hU : ∀ id, U id → b0.un id) : R (b0.at U) σ h w :=
  { r with un := fun id hid => r.un id (hU id hid), below := ⟨r.below.os, r.below.tape, r.below.output, r.below.size, r.below.block⟩ }

/-- a block that the machine has not made yet -/
theorem R.pushUn (r : R b0 σ h w) (b : ABlk) : R (b0.at fun id => b0.un id ∨ id = h.n) (σ ++ [(none : Option Pl)]) (h.push b) w :=
  have old : ∀ {id : Nat} {c : ABlk} {p : Pl}, (h.push b).get id = some c → pl (σ ++ [(none : Option Pl)]) id = some p → h.get id = some c ∧ pl σ id = some p := by
    intro id c p e hp
    rw [AH.get_push h r.len] at e
    split at e
    · rename_i hid; subst hid
      rw [← r.sl, pl_new] at hp; cases hp
    · exact ⟨e, pl_push r e hp⟩
  { len := by simp [AH.push, r.len]
    sl := by rw [Sg.length_snoc, r.sl]; rfl
    br := fun id c p e hp => by
      obtain ⟨e, hp⟩ := old e hp
      exact (r.br id c p e hp).mono (Ext.snoc' σ none)
    un := by
      rintro id (hid | rfl)
      · obtain ⟨h1, h2⟩ := r.un id hid
        exact ⟨by simp only [AH.push]; omega, by rw [pl_old σ _ (by rw [r.sl]; exact h1)]; exact h2⟩
      · exact ⟨by simp only [AH.push]; omega, by rw [← r.sl, pl_new]⟩
    inj := fun i j bi bj pi pj ei ej li lj hi hj hblk => by
      obtain ⟨ei, hi⟩ := old ei hi
      obtain ⟨ej, hj⟩ := old ej hj
      exact r.inj i j bi bj pi pj ei ej li lj hi hj hblk
    below := ⟨r.below.os, r.below.tape, r.below.output, r.below.size, r.below.block⟩
    gl := fun g hg => let ⟨p, h1, h2⟩ := r.gl g hg; ⟨p, Ext.snoc' σ none _ _ h1, h2⟩
    lone := fun i j n sz es bj pi pj ei ej lj hi hj hr => by
      obtain ⟨ei, hi⟩ := old ei hi
      obtain ⟨ej, hj⟩ := old ej hj
      exact r.lone i j n sz es bj pi pj ei ej lj hi hj hr
    ltwo := fun i j n sz n' sz' es es' pi pj ei ej hi hj hri hrj hblk => by
      obtain ⟨ei, hi⟩ := old ei hi
      obtain ⟨ej, hj⟩ := old ej hj
      exact r.ltwo i j n sz n' sz' es es' pi pj ei ej hi hj hri hrj hblk
    keep := r.keep
    kown := fun b2 i v hv => ⟨fun id bk p e lb hp => by
      obtain ⟨e, hp⟩ := old e hp
      exact (r.kown b2 i v hv).1 id bk p e lb hp, fun id n sz es p e hp => by
      obtain ⟨e, hp⟩ := old e hp
      exact (r.kown b2 i v hv).2 id n sz es p e hp⟩
    kpn := r.kpn }

theorem pl_set (σ : Sg) (id : Nat) (p : Pl) (k : Nat) (hid : id < σ.length) : pl (σ.set id (some p)) k = if k = id then some p else pl σ k := by
  unfold pl
  have : (σ.set id (some p)).pls[k]? = if k = id then some (some p) else σ.pls[k]? := by
    show (σ.pls.set id (some p))[k]? = _
    rw [List.getElem?_set]
    by_cases hk : id = k
    · subst hk; simp only [if_true]; rw [if_pos (by exact hid)]
    · rw [if_neg hk, if_neg (fun hh => hk hh.symm)]
  rw [this]
  by_cases hk : k = id
  · simp only [if_pos hk]
  · simp only [if_neg hk]

/-- the machine makes it -/
theorem R.mat (r0 : R b0 σ h w) {id : Nat} {vs vs' : List Value} {esz : Nat} (hun : b0.un id) (hg : h.get id = some (.cells vs esz)) (hv : VRs σ vs vs') (T : TypeId) {U : Nat → Prop} (hU : ∀ k, U k → b0.un k ∧ k ≠ id) :
    ∃ p : Pl, p.blk = w.heap.size ∧ p.off = 0 ∧ Ext σ (σ.set id (some p)) ∧ pl (σ.set id (some p)) id = some p ∧ R (b0.at U) (σ.set id (some p)) h (w.alloc (.cells ⟨vs'⟩ T)) := by
  obtain ⟨hlt, hnone⟩ := r0.un id hun
  have hlt' : id < σ.length := by rw [r0.sl]; exact hlt
  let p : Pl := ⟨w.heap.size, 0, vs'.length, esz, 0⟩
  have hset : ∀ k, pl (σ.set id (some p)) k = if k = id then some p else pl σ k := fun k => pl_set σ id p k hlt'
  have hinf : Ext σ (σ.set id (some p)) := ⟨fun i q hq => by
    rw [hset]
    split
    · rename_i hi; subst hi; rw [hnone] at hq; cases hq
    · exact hq, fun _ _ _ h => h⟩
  have r := r0.world (w' := w.alloc (.cells ⟨vs'⟩ T)) (r0.below.alloc _) (fun k hk => Below.heap_alloc w _ k hk)
  have hfree : Free σ h (.cells vs esz) p := r0.free (.cells vs esz) p rfl (Nat.le_refl _)
  refine ⟨p, rfl, rfl, hinf, by rw [hset, if_pos rfl], ?_⟩
  exact {
    len := r.len
    sl := by rw [Sg.length_set]; exact r.sl
    br := by
      intro k c q e hq
      rw [hset] at hq
      split at hq
      · rename_i hk; subst hk; cases hq
        rw [hg] at e; cases e
        refine ⟨rfl, r0.okn, ⟨vs'⟩, T, (0, 0), Array.getElem?_push_size, ?_, by show vs.length ≤ vs'.length; rw [hv.length]; exact Nat.le_refl _, .inl rfl, ?_⟩
        · show 0 + vs'.length ≤ (⟨vs'⟩ : Array Value).size; simp
        · intro i v hi
          obtain ⟨v', hv', hr⟩ := hv.get hi
          exact ⟨v', by show (⟨vs'⟩ : Array Value)[0 + i]? = _; rw [Nat.zero_add]; simpa using hv', hr.mono hinf⟩
      · exact (r.br k c q e hq).mono hinf
    un := by
      intro k hk
      obtain ⟨h1, h2⟩ := hU k hk
      obtain ⟨g1, g2⟩ := r.un k h1
      exact ⟨g1, by rw [hset, if_neg h2]; exact g2⟩
    inj := by
      intro i j bi bj pi pj ei ej li lj hi hj hblk
      rw [hset] at hi hj
      split at hi <;> split at hj
      · rename_i a b; rw [a, b]
      · cases hi
        exact absurd hblk.symm (hfree.live j bj pj ej lj hj (.inl rfl))
      · cases hj
        exact absurd hblk (hfree.live i bi pi ei li hi (.inl rfl))
      · exact r.inj i j bi bj pi pj ei ej li lj hi hj hblk
    below := ⟨r.below.os, r.below.tape, r.below.output, r.below.size, r.below.block⟩
    gl := fun g hg => let ⟨p, h1, h2⟩ := r.gl g hg; ⟨p, hinf _ _ h1, h2⟩
    lone := by
      intro i j n sz es bj pi pj ei ej lj hi hj hr hblk
      rw [hset] at hi hj
      split at hi
      · rename_i a; subst a; rw [hg] at ei; cases ei
      · split at hj
        · cases hj
          exact hfree.lst i n sz es pi ei hi hr (.inl rfl) hblk
        · exact r.lone i j n sz es bj pi pj ei ej lj hi hj hr hblk
    ltwo := by
      intro i j n sz n' sz' es es' pi pj ei ej hi hj hri hrj hblk
      rw [hset] at hi hj
      split at hi
      · rename_i a; subst a; rw [hg] at ei; cases ei
      · split at hj
        · rename_i a; subst a; rw [hg] at ej; cases ej
        · exact r.ltwo i j n sz n' sz' es es' pi pj ei ej hi hj hri hrj hblk
    keep := r.keep
    kown := by
      intro b2 i v hv2
      refine ⟨fun k bk q e lb hq hblk => ?_, fun k n sz es q e hq hr hblk => ?_⟩
      · rw [hset] at hq
        split at hq
        · cases hq; subst hblk
          exact hfree.kept i v rfl hv2
        · exact (r.kown b2 i v hv2).1 k bk q e lb hq hblk
      · rw [hset] at hq
        split at hq
        · rename_i a; subst a; rw [hg] at e; cases e
        · exact (r.kown b2 i v hv2).2 k n sz es q e hq hr hblk
    kpn := r.kpn }

/-- what makes a block, told outright -/
theorem opE_fill {ρ : Operand → Option Value} {ρ' : Operand → Value} {o : Oper} {an : AN} {h1 : AH} (hf : fillOp o.op = true) (hop : opE P ρ o.type o.op h = some (an, h1)) (hρ : ∀ x v, ρ x = some v → VR σ v (ρ' x)) (w : World) :
    ∃ v vs esz T vs' v', an = .value v ∧ h1 = h.push (.cells vs esz) ∧ VRs σ vs vs' ∧ (execOp ρ' o).run P w = .ok (.value v') (w.alloc (.cells ⟨vs'⟩ T)) ∧
      ∀ (σ2 : Sg) (p : Pl), pl σ2 h.n = some p → p.blk = w.heap.size → p.off = 0 → VR σ2 v v' := by
  obtain ⟨dst, op, ty, pos, after, guard⟩ := o
  simp only at hf hop
  cases op <;> simp only [fillOp, Bool.false_eq_true] at hf
  case alloc T =>
    simp only [opE, Option.map_eq_some_iff] at hop
    obtain ⟨z, hz, hh⟩ := hop; cases hh
    have hzc := (zero_closed (σ := σ) hz).cells
    refine ⟨_, cellsL z, 0, T, z.cells.toList, .pointer (some ⟨w.heap.size, 0, none⟩), rfl, rfl, hzc, v_run ?_, ?_⟩
    · simp [Instr.alloc, run_zero' hz, newVar, newRow]
    · intro σ2 p hp hb ho
      have := VR.ptr (i := 0) hp
      rw [hb, ho] at this; exact this
  case box T x =>
    simp only [opE, Option.map_eq_some_iff] at hop
    obtain ⟨z, hz, hh⟩ := hop; cases hh
    have hv := (hρ _ _ hz).cells
    refine ⟨_, cellsL z, 0, T, (ρ' x).cells.toList, .pointer (some ⟨w.heap.size, 0, none⟩), rfl, rfl, hv, v_run ?_, ?_⟩
    · simp [Instr.box, newVar, newRow]
    · intro σ2 p hp hb ho
      have := VR.ptr (i := 0) hp
      rw [hb, ho] at this; exact this
  case buildSlice t len parts =>
    simp only [opE] at hop
    split at hop
    · rename_i ps hps
      simp only [Option.map_eq_some_iff] at hop
      obtain ⟨⟨v, h2⟩, e, hh⟩ := hop; cases hh
      have hp := evalPs_sound hρ hps
      unfold buildSliceE at e
      split at e
      · rename_i elem hd
        split at e
        · rename_i z size hz hsz
          split at e
          · rename_i hq
            simp only [Bool.and_eq_true, Nat.beq_eq, Nat.ble_eq] at hq
            split at e
            · rename_i cells hfill
              cases e
              have hzc := (zero_closed (σ := σ) hz).cells
              have hzs : z.cells.size = size := by rw [← Array.length_toList, ← hzc.length]; exact hq.2
              obtain ⟨l', hl', hr⟩ := fill_sound _ hp (VRs.reps hzc len) hfill
              refine ⟨_, cells, size, elem, l', .slice (some ⟨w.heap.size, 0, none⟩) len len, rfl, rfl, hr, v_run ?_, ?_⟩
              · have hng : ¬ (len * size > 2 ^ 24) := by omega
                have hma := map_arr (fun (x : Nat × Operand) => (x.1, ρ' x.2)) parts
                by_cases h0 : len * size = 0
                · have hnil : reps z.cells.toList len = [] := reps_nil_of _ _ (by rw [Array.length_toList, hzs]; exact h0)
                  rw [hnil] at hl'
                  have hl2 : Instr.fill (fun i => some (i * size, size)) (Array.map (fun x => (#[] : Array Value)[x % (#[] : Array Value).size]!) (Array.range 0)) (parts.map fun (i, x) => (i, ρ' x)).toList = some ⟨l'⟩ := by
                    have hr0 : (Array.range 0).map (fun x => (#[] : Array Value)[x % (#[] : Array Value).size]!) = ⟨[]⟩ := by simp
                    rw [hr0, ← hma]; exact hl'
                  simp only [Instr.buildSlice, Sem.run_bind, run_underlying' hd, Result.andThen_ok, run_sizeOf' hsz, Sem.run_ite, if_neg hng, h0, if_true, Sem.run_pure, hl2, newRow, run_newObj, World.alloc_eq]
                  rw [if_neg (by omega)]
                · have hl2 : Instr.fill (fun i => some (i * size, size)) (Array.map (fun x => z.cells[x % z.cells.size]!) (Array.range (len * size))) (parts.map fun (i, x) => (i, ρ' x)).toList = some ⟨l'⟩ := by
                    rw [range_map_eq z.cells len size (.inl hzs), if_neg h0, ← hma]; exact hl'
                  simp only [Instr.buildSlice, Sem.run_bind, run_underlying' hd, Result.andThen_ok, run_sizeOf' hsz, Sem.run_ite, if_neg hng, if_neg h0, run_zero' hz, Sem.run_pure, hl2, newRow, run_newObj, World.alloc_eq]
              · intro σ2 p hp hb ho
                have := VR.slice (i := 0) (n := len) (c := len) hp (by unfold inf; have := hq.1.2; omega)
                rw [hb, ho] at this; exact this
            · cases e
          · cases e
        · cases e
      · cases e
    · cases hop

theorem eqC_eq {a b : Value} (h : eqC a b = true) : a = b := by
  unfold eqC at h
  split at h
  all_goals first
    | (simp at h; done)
    | rfl
    | (simp at h; subst h; rfl)
    | (simp at h; obtain ⟨rfl, rfl⟩ := h; rfl)
    | (simp at h; obtain ⟨⟨rfl, rfl⟩, rfl⟩ := h; rfl)

theorem eqL_eq : ∀ {a b : List Value}, eqL a b = true → a = b
  | [], [], _ => rfl
  | x :: l, y :: m, h => by
    simp only [eqL, Bool.and_eq_true] at h
    rw [eqC_eq h.1, eqL_eq h.2]
  | [], _ :: _, h => by simp [eqL] at h
  | _ :: _, [], h => by simp [eqL] at h

theorem eqV_eq {a b : Value} (h : eqV a b = true) : a = b := by
  unfold eqV at h
  split at h
  · rw [eqL_eq h]
  · simp only [Bool.and_eq_true, Nat.beq_eq] at h
    obtain ⟨⟨rfl, h2⟩, h3⟩ := h
    rw [eqL_eq h2, eqL_eq h3]
  · exact eqC_eq h

end
end Go.Proofs.YtmcmaklilfgdiaaGreat.Ev
