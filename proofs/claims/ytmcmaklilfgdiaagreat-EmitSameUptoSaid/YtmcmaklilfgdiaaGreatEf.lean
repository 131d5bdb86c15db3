/- Each operation of the evaluator is the machine's: what is built and appended. -/
import Derived.Test.YtmcmaklilfgdiaaGreatEe
namespace Go.Proofs.YtmcmaklilfgdiaaGreat.Ev
open Go Go.RowKit

section
variable {P : Program} {σ : Sg} {w0 : Bs} {h : AH} {w : World}

theorem VRs.setMany : ∀ {news news' : List Value}, VRs σ news news' → ∀ {vs vs' : List Value} (i : Nat), VRs σ vs vs' → VRs σ (Ev.setMany vs i news) (Ev.setMany vs' i news')
  | _, _, .nil, _, _, _, h => h
  | _, _, .cons hv ht, _, _, i, h => VRs.setMany ht (i + 1) (h.set i hv)

theorem foldl_setMany (off : Nat) : ∀ (l : List Value) (k : Nat) (cs : List Value),
    (l.zipIdx k).foldl (fun (cs : Array Value) (x : Value × Nat) => cs.setIfInBounds (off + x.2) x.1) ⟨cs⟩ = ⟨setMany cs (off + k) l⟩
  | [], _, _ => rfl
  | v :: l, k, cs => by
    simp only [List.zipIdx_cons, List.foldl_cons, setMany, List.setIfInBounds_toArray]
    rw [foldl_setMany off l (k + 1) (cs.set (off + k) v)]
    rfl

theorem fold_cells (off : Nat) (v : Value) (cs : List Value) :
    v.cells.zipIdx.foldl (fun (cs : Array Value) (x : Value × Nat) => cs.setIfInBounds (off + x.2) x.1) ⟨cs⟩ = ⟨setMany cs off v.cells.toList⟩ := by
  rw [← Array.foldl_toList, Array.toList_zipIdx]
  exact foldl_setMany off v.cells.toList 0 cs

inductive VRp (σ : Sg) : List (Nat × Value) → List (Nat × Value) → Prop
  | nil : VRp σ [] []
  | cons {i : Nat} {v v' : Value} {l l' : List (Nat × Value)} (h : VR σ v v') (t : VRp σ l l') : VRp σ ((i, v) :: l) ((i, v') :: l')

theorem fill_sound (place : Nat → Option (Nat × Nat)) : ∀ {ps ps' : List (Nat × Value)}, VRp σ ps ps' → ∀ {cs cs' l : List Value}, VRs σ cs cs' → fillL place cs ps = some l →
    ∃ l', Instr.fill place ⟨cs'⟩ ps' = some ⟨l'⟩ ∧ VRs σ l l'
  | _, _, .nil, cs, cs', l, hc, e => by cases e; exact ⟨cs', rfl, hc⟩
  | _, _, .cons (i := i) (v := v) (v' := v') hv ht, cs, cs', l, hc, e => by
    simp only [fillL] at e
    split at e
    · cases e
    · rename_i off size hp
      split at e
      · rename_i hq
        simp only [Bool.and_eq_true, Nat.beq_eq, Nat.ble_eq] at hq
        have hcl := hv.cells
        have hlen : v'.cells.size = size := by rw [← Array.length_toList, ← hcl.length]; exact hq.1
        have hle : off + size ≤ cs'.length := by rw [← hc.length]; omega
        obtain ⟨l', hl', hr⟩ := fill_sound place ht (hcl.setMany off hc) e
        refine ⟨l', ?_, hr⟩
        have h1 : (decide (v'.cells.size ≠ size) || decide (off + v'.cells.size > (⟨cs'⟩ : Array Value).size)) = false := by
          simp [hlen]; exact hle
        simp only [Instr.fill, hp, h1, Bool.false_eq_true, if_false]
        have := fold_cells off v' cs'
        rw [← hl']
        exact congrArg (fun z => Instr.fill place z _) this
      · cases e

theorem reps_eq (z : List Value) : ∀ n : Nat, (List.range (n * z.length)).map (fun i => z[i % z.length]!) = reps z n
  | 0 => by simp [reps]
  | n + 1 => by
    have : (n + 1) * z.length = z.length + n * z.length := by rw [Nat.add_mul, Nat.one_mul, Nat.add_comm]
    rw [this, List.range_add, List.map_append, reps]
    congr 1
    · apply List.ext_getElem?
      intro i
      by_cases hi : i < z.length
      · simp [List.getElem?_map, List.getElem?_range hi, Nat.mod_eq_of_lt hi, hi]
      · simp [List.getElem?_eq_none (Nat.le_of_not_lt hi)]; omega
    · rw [List.map_map, ← reps_eq z n]
      apply List.map_congr_left
      intro i _
      simp [Nat.add_mod_left]

theorem reps_length (z : List Value) : ∀ n : Nat, (reps z n).length = n * z.length
  | 0 => by simp [reps]
  | n + 1 => by simp [reps, reps_length z n, Nat.add_mul, Nat.add_comm]

theorem VRs.reps {z z' : List Value} (hz : VRs σ z z') : ∀ n : Nat, VRs σ (Ev.reps z n) (Ev.reps z' n)
  | 0 => .nil
  | n + 1 => hz.append (VRs.reps hz n)

theorem zeroCells_eq (z : Array Value) (n : Nat) : Builtin.zeroCells z n = ⟨reps z.toList n⟩ := by
  apply Array.ext'
  simp only [Builtin.zeroCells, Array.toList_map, Array.toList_range]
  rw [← reps_eq z.toList n]
  simp only [Array.length_toList]
  apply List.map_congr_left
  intro a _
  rw [getElem!_def, getElem!_def, Array.getElem?_toList]

theorem range_map_eq (z : Array Value) (n s : Nat) (hs : z.size = s ∨ n * s = 0) : ((Array.range (n * s)).map (fun i => z[i % z.size]!)) = ⟨if n * s = 0 then [] else reps z.toList n⟩ := by
  by_cases h0 : n * s = 0
  · rw [if_pos h0, h0]; simp
  · rw [if_neg h0]
    rcases hs with hs | hs
    · rw [← hs]; exact zeroCells_eq z n
    · exact absurd hs h0

theorem reps_nil_of (z : List Value) (n : Nat) (h : n * z.length = 0) : reps z n = [] := by
  have := reps_length z n
  rw [h] at this
  exact List.length_eq_zero_iff.1 this

theorem build_sound {t : TypeId} {ps ps' : List (Nat × Value)} {v : Value} (hp : VRp σ ps ps') (e : buildE P t ps = some v) (w : World) :
    ∃ v', (Instr.build t ⟨ps'⟩).run P w = .ok v' w ∧ VR σ v v' := by
  unfold buildE at e
  split at e
  · rename_i z fields hz hd
    split at e
    · rename_i hall
      simp only [List.all_eq_true, Option.isSome_iff_exists] at hall
      simp only [Option.map_eq_some_iff] at e
      obtain ⟨l, hl, rfl⟩ := e
      have hzc := (zero_closed (σ := σ) hz).cells
      have hpl : ∀ (fs : List Field) (w : World), (∀ f ∈ fs, ∃ n, sizeE P f.type = some n) →
          (fs.mapM (m := Sem) fun f => do pure (f.offset, ← sizeOf f.type)).run P w = .ok (fs.map fun f => (f.offset, (sizeE P f.type).getD 0)) w := by
        intro fs
        induction fs with
        | nil => intro w _; simp
        | cons f fs ih =>
          intro w hall
          obtain ⟨n, hn⟩ := hall f (by simp)
          simp only [List.mapM_cons, Sem.run_bind, run_sizeOf' hn, Result.andThen_ok, Sem.run_pure, ih w (fun g hg => hall g (by simp [hg])), List.map_cons, hn, Option.getD_some]
      have hpa : (fields.mapM (m := Sem) fun f => do pure (f.offset, ← sizeOf f.type)).run P w = .ok (fields.map fun f => (f.offset, (sizeE P f.type).getD 0)) w := by
        rw [Array.mapM_eq_mapM_toList, Sem.run_map, hpl fields.toList w hall]
        simp only [Result.andThen_ok]
        congr 1
        apply Array.ext'
        simp
      have hplace : placeE P fields = fun i => (fields.map fun f => (f.offset, (sizeE P f.type).getD 0))[i]? := by
        funext i
        unfold placeE
        rw [Array.getElem?_map]
        cases hf : fields[i]? with
        | none => rfl
        | some f =>
          obtain ⟨n, hn⟩ := hall f (by have := Array.mem_of_getElem? hf; simpa using this)
          simp [hn]
      rw [hplace] at hl
      obtain ⟨l', hl', hr⟩ := fill_sound _ hp hzc hl
      refine ⟨.agg ⟨l'⟩, ?_, .agg hr⟩
      simp only [Instr.build, Sem.run_bind, run_zero' hz, Result.andThen_ok, run_underlying' hd, hpa]
      have h2 : Instr.fill (fun x => (fields.map fun f => (f.offset, (sizeE P f.type).getD 0))[x]?) z.cells ps' = some ⟨l'⟩ := hl'
      simp only [h2, Sem.run_pure]
    · cases e
  · rename_i z n elem hz hd
    split at e
    · rename_i size hsz
      simp only [Option.map_eq_some_iff] at e
      obtain ⟨l, hl, rfl⟩ := e
      have hzc := (zero_closed (σ := σ) hz).cells
      obtain ⟨l', hl', hr⟩ := fill_sound _ hp hzc hl
      refine ⟨.agg ⟨l'⟩, ?_, .agg hr⟩
      simp [Instr.build, run_zero' hz, run_underlying' hd, run_sizeOf' hsz, hl']
    · cases e
  · cases e

theorem buildSlice_sound (r : R w0 σ h w) {t : TypeId} {len : Nat} {ps ps' : List (Nat × Value)} {v : Value} {h' : AH} (hp : VRp σ ps ps') (e : buildSliceE P h t len ps = some (v, h')) :
    ∃ σ' w' v', Ext σ σ' ∧ R w0 σ' h' w' ∧ (Instr.buildSlice t len ⟨ps'⟩).run P w = .ok v' w' ∧ VR σ' v v' := by
  unfold buildSliceE at e
  split at e
  · rename_i elem hd
    split at e
    · rename_i z size hz hsz
      split at e
      · rename_i hq
        simp only [Bool.and_eq_true, Nat.beq_eq, Nat.ble_eq] at hq
        split at e
        · rename_i cells hfill
          cases e
          have hzc := (zero_closed (σ := σ) hz).cells
          have hzs : z.cells.size = size := by rw [← Array.length_toList, ← hzc.length]; exact hq.2
          obtain ⟨l', hl', hr⟩ := fill_sound _ hp (VRs.reps hzc len) hfill
          obtain ⟨p, hpb, hpo, hpr, hpe, r'⟩ := new_sound r elem hr size _ [] rfl
          refine ⟨σ ++ [some p], _, .slice (some ⟨p.blk, p.off + 0, none⟩) len len, Ext.snoc _ _, r', ?_, .slice (get_new r p) ?_⟩
          · have hng : ¬ (len * size > 2 ^ 24) := by omega
            by_cases h0 : len * size = 0
            · have hnil : reps z.cells.toList len = [] := reps_nil_of _ _ (by rw [Array.length_toList, hzs]; exact h0)
              rw [hnil] at hl'
              have hl2 : Instr.fill (fun i => some (i * size, size)) (Array.map (fun x => (#[] : Array Value)[x % (#[] : Array Value).size]!) (Array.range 0)) ps' = some ⟨l'⟩ := by
                have hr0 : (Array.range 0).map (fun x => (#[] : Array Value)[x % (#[] : Array Value).size]!) = ⟨[]⟩ := by simp
                rw [hr0]; exact hl'
              simp only [Instr.buildSlice, Sem.run_bind, run_underlying' hd, Result.andThen_ok, run_sizeOf' hsz, Sem.run_ite, if_neg hng, h0, if_true, Sem.run_pure, hl2, newRow, run_newObj, hpb, hpo, List.append_nil, World.alloc_eq]
              rfl
            · have hl2 : Instr.fill (fun i => some (i * size, size)) (Array.map (fun x => z.cells[x % z.cells.size]!) (Array.range (len * size))) ps' = some ⟨l'⟩ := by
                rw [range_map_eq z.cells len size (.inl hzs), if_neg h0]; exact hl'
              simp only [Instr.buildSlice, Sem.run_bind, run_underlying' hd, Result.andThen_ok, run_sizeOf' hsz, Sem.run_ite, if_neg hng, if_neg h0, run_zero' hz, Sem.run_pure, hl2, newRow, run_newObj, hpb, hpo, List.append_nil, World.alloc_eq]
          · unfold inf; have := hq.1.2; omega
        · cases e
      · cases e
    · cases e
  · cases e

theorem wrap_small {n : Int} (h0 : 0 ≤ n) (h1 : n ≤ 1048576) : IntKind.i64.wrap n = n := by
  have : n % (18446744073709551616 : Int) = n := Int.emod_eq_of_lt h0 (by omega)
  show (if (true && decide (n % (18446744073709551616 : Int) ≥ (9223372036854775808 : Int))) = true then n % (18446744073709551616 : Int) - (18446744073709551616 : Int) else n % (18446744073709551616 : Int)) = n
  rw [this, if_neg]
  simp only [Bool.true_and, decide_eq_true_eq]
  omega

theorem makeSlice_sound (r : R w0 σ h w) {t : TypeId} {l l' c c' v : Value} {h' : AH} (hl : VR σ l l') (hc : VR σ c c') (e : makeSliceE P h t l c = some (v, h')) :
    ∃ σ' w' v', Ext σ σ' ∧ R w0 σ' h' w' ∧ (Instr.makeSlice t l' c').run P w = .ok v' w' ∧ VR σ' v v' := by
  unfold makeSliceE at e
  split at e
  · rename_i elem _ l _ c hd
    cases hl; cases hc
    split at e
    · rename_i z i hz hi
      split at e
      · rename_i hq
        obtain ⟨q1, q2, q3, q4, q5⟩ := hq
        simp only [Nat.beq_eq, Nat.ble_eq] at q4 q5
        cases e
        have hzc := (zero_closed (σ := σ) hz).cells
        have hzs : z.cells.size = i.size := by rw [← Array.length_toList, ← hzc.length]; exact q4
        have hsz : sizeE P elem = some i.size := by simp [sizeE, hi]
        obtain ⟨p, hpb, hpo, hpr, hpe, r'⟩ := new_sound r elem (VRs.reps hzc c.toNat) i.size _ [] rfl
        refine ⟨σ ++ [some p], _, .slice (some ⟨p.blk, p.off + 0, none⟩) l.toNat c.toNat, Ext.snoc _ _, r', ?_, .slice (get_new r p) ?_⟩
        · have hb : (i.bytes : Int) * c ≤ 2 ^ 48 := by
            have h1 : (i.bytes : Int) * c ≤ 65536 * 1048576 := Int.mul_le_mul (by omega) q3 (by omega) (by omega)
            omega
          have hcond : (((decide (c < 0) || decide ((i.bytes : Int) * c > 2 ^ 48)) || decide (l < 0)) || decide (l > c)) = false := by
            simp only [Bool.or_eq_false_iff, decide_eq_false_iff_not]; omega
          have hrow : ∀ Z : Array Value, (c.toNat * i.size = 0 ∨ Z = z.cells) → (Array.range (c.toNat * i.size)).map (fun x => Z[x % Z.size]!) = ⟨reps z.cells.toList c.toNat⟩ := by
            intro Z hZ
            by_cases h0 : c.toNat * i.size = 0
            · have hnil : reps z.cells.toList c.toNat = [] := reps_nil_of _ _ (by rw [Array.length_toList, hzs]; exact h0)
              rw [hnil, h0]; simp
            · rcases hZ with hZ | rfl
              · exact absurd hZ h0
              · rw [range_map_eq z.cells _ _ (.inl hzs), if_neg h0]
          by_cases h0 : c.toNat * i.size = 0
          · simp only [Instr.makeSlice, Sem.run_bind, run_underlying' hd, Result.andThen_ok, asInt, asIntOf, Sem.run_pure, run_typeInfo' hi, wrap_small q1 (by omega), wrap_small (Int.le_trans q1 q2) q3, hcond, Bool.false_eq_true, Sem.run_ite, if_false, run_askRoom, run_sizeOf' hsz, if_pos h0, hrow #[] (.inl h0), newRow, run_newObj, hpb, hpo, List.append_nil, World.alloc_eq]
          · simp only [Instr.makeSlice, Sem.run_bind, run_underlying' hd, Result.andThen_ok, asInt, asIntOf, Sem.run_pure, run_typeInfo' hi, wrap_small q1 (by omega), wrap_small (Int.le_trans q1 q2) q3, hcond, Bool.false_eq_true, Sem.run_ite, if_false, run_askRoom, run_sizeOf' hsz, if_neg h0, run_zero' hz, hrow z.cells (.inr rfl), newRow, run_newObj, hpb, hpo, List.append_nil, World.alloc_eq]
        · unfold inf; omega
      · cases e
    · cases e
  · cases e

end
end Go.Proofs.YtmcmaklilfgdiaaGreat.Ev
