/- Each operation of the evaluator is the machine's: append in place, copy, len, conversions. -/
import Derived.Test.YtmcmaklilfgdiaaGreatEg
namespace Go.Proofs.YtmcmaklilfgdiaaGreat.Ev
open Go Go.RowKit

section
variable {P : Program} {σ : Sg} {w0 : Bs} {h : AH} {w : World}

theorem run_room {sT ty elem : TypeId} {i : TypeInfo} {z : Value} {size n len cap : Nat} {argTypes : Array TypeId} {base : Option Addr} {x' : Value} {news news' : List Value} {w' : World}
    (hT : argTypes[0]? = some sT) (hd : P.underlying sT = some (.slice elem)) (hi : P.info? elem = some i) (hz : zeroE P elem = some z) (hzs : z.cells.size = size) (hsi : i.size = size)
    (A : App P σ w elem z size n argTypes x' news news') (hle : len + n ≤ cap) (hn : n ≤ 1048576) (hb : i.bytes ≤ 65536)
    (hst : match base with
      | some a => (storeCells (a.add (len * size)) news').run P w = .ok () w'
      | none => w' = w) :
    (Builtin.append_ argTypes ty #[.slice base len cap, x']).run P w = .ok (.slice base (len + n) cap) w' := by
  have hsz : sizeE P elem = some size := by simp [sizeE, hi, hsi]
  have hrest : ∀ k, Builtin.zeroCells z.cells k = ⟨reps z.cells.toList k⟩ := zeroCells_eq z.cells
  rcases A.way with ⟨xt, d, hxt, hxd, hint, S⟩ | ⟨xt, k, k', hxt, hxd, rfl, hle2, rfl⟩
  · have hnew : (Builtin.firstCells size n x').run P w = .ok ⟨news'⟩ w := by
      have := S.cells n (Nat.le_refl n)
      rwa [List.take_of_length_le (by rw [← S.rel.length, S.len]; omega)] at this
    have hm : (match d with | .int _ => true | _ => false) = false := by cases d <;> first | rfl | exact absurd rfl (hint _)
    have h0 : (#[Value.slice base len cap, x'] : Array Value)[0]? = some (.slice base len cap) := rfl
    have h1 : (#[Value.slice base len cap, x'] : Array Value)[1]? = some x' := rfl
    cases base with
    | none =>
      simp only at hst; subst hst
      simp only [Builtin.append_, hT, hxt, h0, h1, Sem.run_bind, run_underlying' hd, run_underlying' hxd, Result.andThen_ok, run_sizeOf' hsz, Sem.run_pure, hm, S.lenOf, Bool.false_eq_true, if_false, Sem.run_ite,
        if_pos hle, Bool.not_false, if_true, hnew]
    | some a =>
      simp only at hst
      simp only [Builtin.append_, hT, hxt, h0, h1, Sem.run_bind, run_underlying' hd, run_underlying' hxd, Result.andThen_ok, run_sizeOf' hsz, Sem.run_pure, hm, S.lenOf, Bool.false_eq_true, if_false, Sem.run_ite,
        if_pos hle, Bool.not_false, if_true, hnew, hst]
  · have h0 : ∀ y, (#[Value.slice base len cap, y] : Array Value)[0]? = some (.slice base len cap) := fun _ => rfl
    have h1 : ∀ y, (#[Value.slice base len cap, y] : Array Value)[1]? = some y := fun _ => rfl
    have hw : IntKind.i64.wrap (n : Int) = (n : Int) := wrap_small (by omega) (by omega)
    have hn0 : ¬ ((n : Int) < 0) := by omega
    have hnb : ¬ ((n : Int) * (i.bytes : Int) > 2 ^ 48) := by
      have h1 : (n : Int) * (i.bytes : Int) ≤ 1048576 * 65536 := Int.mul_le_mul (by omega) (by omega) (by omega) (by omega)
      omega
    have hap : ((if n * size = 0 then pure #[] else do pure (Builtin.zeroCells (← zeroValue elem).cells n)) : Sem (Array Value)).run P w = .ok ⟨reps z.cells.toList n⟩ w := by
      by_cases hns : n * size = 0
      · have hr0 : reps z.cells.toList n = [] := reps_nil_of _ _ (by rw [Array.length_toList, hzs]; exact hns)
        simp only [if_pos hns, Sem.run_pure, hr0]
      · simp only [if_neg hns, Sem.run_bind, run_zero' hz, Result.andThen_ok, Sem.run_pure, hrest]
    by_cases hns : n * size = 0
    · have hr0 : reps z.cells.toList n = [] := reps_nil_of _ _ (by rw [Array.length_toList, hzs]; exact hns)
      rw [hr0] at hst
      cases base with
      | none =>
        simp only at hst; subst hst
        simp only [Builtin.append_, hT, hxt, h0, h1, Sem.run_bind, run_underlying' hd, run_underlying' hxd, Result.andThen_ok, run_sizeOf' hsz, Sem.run_pure, Bool.false_eq_true, if_false, Sem.run_ite, asInt, asIntOf, hw, hn0, hnb, Int.toNat_natCast,
          if_pos hle, run_typeInfo' hi, Bool.not_true, if_true, hns]
      | some a =>
        simp only at hst
        simp only [Builtin.append_, hT, hxt, h0, h1, Sem.run_bind, run_underlying' hd, run_underlying' hxd, Result.andThen_ok, run_sizeOf' hsz, Sem.run_pure, Bool.false_eq_true, if_false, Sem.run_ite, asInt, asIntOf, hw, hn0, hnb, Int.toNat_natCast,
          if_pos hle, run_typeInfo' hi, Bool.not_true, if_true, hns, hst]
    · cases base with
      | none =>
        simp only at hst; subst hst
        simp only [Builtin.append_, hT, hxt, h0, h1, Sem.run_bind, run_underlying' hd, run_underlying' hxd, Result.andThen_ok, run_sizeOf' hsz, Sem.run_pure, Bool.false_eq_true, if_false, Sem.run_ite, asInt, asIntOf, hw, hn0, hnb, Int.toNat_natCast,
          if_pos hle, run_typeInfo' hi, Bool.not_true, if_true, if_neg hns, run_zero' hz]
      | some a =>
        simp only at hst
        simp only [Builtin.append_, hT, hxt, h0, h1, Sem.run_bind, run_underlying' hd, run_underlying' hxd, Result.andThen_ok, run_sizeOf' hsz, Sem.run_pure, Bool.false_eq_true, if_false, Sem.run_ite, asInt, asIntOf, hw, hn0, hnb, Int.toNat_natCast,
          if_pos hle, run_typeInfo' hi, Bool.not_true, if_true, if_neg hns, run_zero' hz, hrest, hst]

theorem store_run (P : Program) : ∀ (news' : List Value) (w : World) (blk o j : Nat) (c : Array Value) (T : TypeId) (fz : Nat × Nat), w.heap[blk]? = some (.cells c T fz) → o + j + news'.length ≤ c.size →
    (∀ k, o + j ≤ k → k < o + j + news'.length → ¬ (fz.1 ≤ k ∧ k < fz.2)) → (∀ v ∈ news', v.oneCell' = true) →
    ∃ (w' : World) (c' : Array Value), (storeCells ⟨blk, o, none⟩ news' j).run P w = .ok () w' ∧ w'.heap[blk]? = some (.cells c' T fz) ∧ c'.size = c.size ∧
      (∀ k, k < o + j ∨ o + j + news'.length ≤ k → c'[k]? = c[k]?) ∧ (∀ (k : Nat) (v : Value), news'[k]? = some v → c'[o + j + k]? = some v) ∧
      w'.heap.size = w.heap.size ∧ w'.os = w.os ∧ w'.tape = w.tape ∧ w'.output = w.output ∧ ∀ k, k ≠ blk → w'.heap[k]? = w.heap[k]?
  | [], w, blk, o, j, c, T, fz, hb, _, _, _ => ⟨w, c, by simp [storeCells], hb, rfl, fun _ _ => rfl, fun k v hk => by simp at hk, rfl, rfl, rfl, rfl, fun _ _ => rfl⟩
  | v :: news', w, blk, o, j, c, T, fz, hb, hle, hfz, hone => by
    simp only [List.length_cons] at hle hfz
    have hsz : o + j < c.size := by omega
    have hcell : w.cell? ⟨blk, o + j, none⟩ = some c[o + j] := by simp [World.cell?, hb, hsz]
    have hfr : w.frozen? ⟨blk, o + j, none⟩ = false := by
      have := hfz (o + j) (by omega) (by omega)
      simp only [World.frozen?, hb]
      simp only [Bool.and_eq_false_iff, decide_eq_false_iff_not]
      by_cases hh : fz.1 ≤ o + j
      · exact .inr fun hx => this ⟨hh, hx⟩
      · exact .inl hh
    have hw1 : (w.setCell ⟨blk, o + j, none⟩ v).heap[blk]? = some (.cells (c.setIfInBounds (o + j) v) T fz) := by
      simp [World.setCell, Array.getElem?_modify, hb]
    obtain ⟨w', c', hrun, hb', hs', hout, hin, hz, ho, ht, hou, hk⟩ := store_run P news' _ blk o (j + 1) _ T fz hw1 (by simp; omega) (fun k h1 h2 => hfz k (by omega) (by omega)) (fun u hu => hone u (by simp [hu]))
    refine ⟨w', c', ?_, hb', by simpa using hs', ?_, ?_, by rw [hz]; simp, by rw [ho]; rfl, by rw [ht]; rfl, by rw [hou]; rfl, fun k hne => by rw [hk k hne]; exact Below.heap_setCell w _ v k hne⟩
    · simp only [storeCells, Sem.run_bind, Addr.add_eq, run_store P w _ v .plain (hone v (by simp)), hcell, hfr, Bool.false_eq_true, if_false, Result.andThen_ok]
      exact hrun
    · intro k hh
      simp only [List.length_cons] at hh
      rw [hout k (by omega), Array.getElem?_setIfInBounds_ne (by omega)]
    · intro k u hu
      cases k with
      | zero =>
        simp at hu; subst hu
        rw [Nat.add_zero, hout (o + j) (by omega), Array.getElem?_setIfInBounds_self_of_lt hsz]
      | succ k =>
        simp at hu
        have := hin k u hu
        rw [show o + j + (k + 1) = o + (j + 1) + k by omega]; exact this

theorem VRs.one {news news' : List Value} (h : VRs σ news news') (ho : news.all oneC = true) : ∀ v ∈ news', v.oneCell' = true := by
  intro v hv
  obtain ⟨k, hk⟩ := List.mem_iff_getElem?.1 hv
  have hlt : k < news.length := by rw [h.length]; exact (List.getElem?_eq_some_iff.1 hk).1
  obtain ⟨u, hu, hr⟩ := h.get (List.getElem?_eq_getElem hlt)
  rw [hk] at hu; cases hu
  rw [oneC_VR hr]
  exact List.all_eq_true.1 ho _ (List.getElem_mem hlt)

theorem append_sound (r : R w0 σ h w) {argTypes : Array TypeId} {ty : TypeId} {s s' x x' v : Value} {h' : AH} (hs : VR σ s s') (hx : VR σ x x') (e : appendE P h argTypes s x = some (v, h')) :
    ∃ σ' w' v', Ext σ σ' ∧ R w0 σ' h' w' ∧ (Builtin.append_ argTypes ty #[s', x']).run P w = .ok v' w' ∧ VR σ' v v' := by
  unfold appendE at e
  split at e
  · cases e
  · rename_i sT hT
    split at e
    · rename_i elem hd
      split at e
      · rename_i i z base len cap hi hz
        split at e
        · rename_i hq
          simp only [Bool.and_eq_true, Nat.beq_eq, Nat.blt_eq, Nat.ble_eq] at hq
          obtain ⟨⟨q1, q2⟩, q3⟩ := hq
          have hzs : z.cells.size = i.size := by rw [← Array.length_toList, ← (zero_closed (σ := σ) hz).cells.length]; exact q1
          have hzl : z.cells.toList.length = i.size := by rw [Array.length_toList]; exact hzs
          split at e
          · rename_i n news hsrc
            split at e
            · rename_i hq2
              simp only [Bool.and_eq_true, Nat.ble_eq] at hq2
              obtain ⟨q4, q5⟩ := hq2
              obtain ⟨news', A⟩ := app_sound r hz hzs hx hsrc
              unfold appTo at e
              split at e
              · -- a capacity that is known
                rename_i hcap
                simp only [Nat.blt_eq] at hcap
                have hs' : ∃ base', s' = .slice base' len cap ∧ (base = none → base' = none ∧ len = 0 ∧ cap = 0) ∧ (∀ b i0, base = some ⟨b, i0, none⟩ → ∃ p, pl σ b = some p ∧ base' = some ⟨p.blk, p.off + i0, none⟩) := by
                  cases hs with
                  | nilslice => exact ⟨none, rfl, fun _ => ⟨rfl, rfl, rfl⟩, fun _ _ hh => by cases hh⟩
                  | slice hp hc => exact ⟨_, rfl, (fun hh => by cases hh), fun b i0 hh => by cases hh; exact ⟨_, hp, rfl⟩⟩
                  | sliceInf hp hn hr => exact absurd hcap (by simp)
                  | sliceEnd hp x => exact absurd hcap (by simp)
                obtain ⟨base', rfl, hb0, hb1⟩ := hs'
                split at e
                · rename_i hle
                  simp only [Nat.ble_eq] at hle
                  split at e
                  · split at e
                    · rename_i hz0
                      cases e
                      obtain ⟨rfl, rfl, rfl⟩ := hb0 rfl
                      have hn0 : n = 0 := by omega
                      subst hn0
                      exact ⟨σ, w, _, Ext.refl σ, r, run_room hT hd hi hz hzs rfl A hle (by omega) q3 rfl, .nilslice⟩
                    · cases e
                  · rename_i b i0
                    simp only [Option.map_eq_some_iff] at e
                    obtain ⟨h1, hw1, hh⟩ := e
                    cases hh
                    obtain ⟨p, hp, rfl⟩ := hb1 b i0 rfl
                    obtain ⟨w', hrun, r', _⟩ := r.writeN P hw1 A.rel hp
                    refine ⟨σ, w', _, Ext.refl σ, r', run_room hT hd hi hz hzs rfl A hle (by omega) q3 (by simp only [Addr.add_eq]; rw [Nat.add_assoc]; exact hrun), .slice hp hcap⟩
                  · cases e
                · rename_i hgt
                  simp only [Nat.ble_eq] at hgt
                  split at e
                  · split at e
                    · rename_i hl0
                      simp only [Nat.beq_eq] at hl0
                      cases e
                      obtain ⟨rfl, hl, rfl⟩ := hb0 rfl
                      subst hl
                      have hold : (Builtin.firstCells i.size 0 (.slice none 0 0)).run P w.drew = .ok ⟨[]⟩ w.drew := by simp [Builtin.firstCells]
                      obtain ⟨nc, hnc, hrun⟩ := run_grow (ty := ty) hT hd hi hz hzs rfl A hgt q4 q3 q2 hold
                      obtain ⟨p, hpb, hpo, hpr, hpe, r'⟩ := new_sound r.drew elem A.rel i.size _ (reps z.cells.toList (nc - (0 + n))) rfl
                      refine ⟨σ ++ [some p], _, _, Ext.snoc _ _, r', by simpa using hrun, ?_⟩
                      have := VR.sliceInf (n := 0 + n) (c := nc) (i := 0) (get_new r p) hnc (by
                        rw [hpr, hpe, reps_length, hzl, ← A.rel.length, A.len, ← Nat.add_mul, Nat.zero_add]
                        exact Nat.mul_le_mul_right _ (by omega))
                      rw [hpo, hpb, Nat.zero_add] at this; simpa using this
                    · cases e
                  · rename_i b i0
                    simp only [Option.map_eq_some_iff] at e
                    obtain ⟨old, hold0, hh⟩ := e
                    cases hh
                    obtain ⟨p0, hp0, rfl⟩ := hb1 b i0 rfl
                    obtain ⟨old', hl1, hv1, hlen1, _⟩ := r.drew.readN (P := P) hold0 hp0
                    have hold : (Builtin.firstCells i.size len (.slice (some ⟨p0.blk, p0.off + i0, none⟩) len cap)).run P w.drew = .ok ⟨old'⟩ w.drew := hl1
                    obtain ⟨nc, hnc, hrun⟩ := run_grow (ty := ty) hT hd hi hz hzs rfl A hgt q4 q3 q2 hold
                    obtain ⟨p, hpb, hpo, hpr, hpe, r'⟩ := new_sound r.drew elem (hv1.append A.rel) i.size _ (reps z.cells.toList (nc - (len + n))) rfl
                    refine ⟨σ ++ [some p], _, _, Ext.snoc _ _, r', hrun, ?_⟩
                    have := VR.sliceInf (n := len + n) (c := nc) (i := 0) (get_new r p) hnc (by
                      rw [hpr, hpe, reps_length, hzl, List.length_append, ← hv1.length, hlen1, ← A.rel.length, A.len, ← Nat.add_mul, ← Nat.add_mul, Nat.zero_add]
                      exact Nat.mul_le_mul_right _ (by omega))
                    rw [hpo, hpb] at this; exact this
                  · cases e
              · -- a capacity that isn't known
                rename_i hcap
                simp only [Nat.blt_eq] at hcap
                split at e
                · rename_i b i0
                  cases hs with
                  | slice hp hc => exact absurd hc hcap
                  | sliceEnd hp x =>
                    rename_i p0
                    split at e
                    · rename_i vs esz hg
                      split at e
                      · rename_i hn0
                        simp only [Nat.beq_eq] at hn0
                        cases e
                        subst hn0
                        have hnil : news' = [] := List.length_eq_zero_iff.1 (by rw [← A.rel.length, A.len]; omega)
                        refine ⟨σ, w, _, Ext.refl σ, r, run_room hT hd hi hz hzs rfl A (by omega) (by omega) q3 (by rw [hnil]; simp [storeCells]), .sliceEnd hp x⟩
                      · rename_i hn0
                        simp only [Nat.beq_eq] at hn0
                        split at e
                        · cases e
                          have hold : (Builtin.firstCells i.size 0 (.slice (some x) 0 0)).run P w.drew = .ok ⟨[]⟩ w.drew := by simp [Builtin.firstCells, loadCells, loadCellsFrom]
                          obtain ⟨nc, hnc, hrun⟩ := run_grow (ty := ty) hT hd hi hz hzs rfl A (by omega) q4 q3 q2 hold
                          have rd := r.drew.dead hg rfl hp
                          obtain ⟨p, hpb, hpo, hpr, hpe, r'⟩ := new_sound rd elem A.rel i.size _ (reps z.cells.toList (nc - (0 + n))) rfl
                          have hgn : pl (σ ++ [some p]) h.n = some p := get_new r p
                          have hcell : ((vs.drop i0).take (0 * i.size) ++ news) = news := by simp
                          rw [hcell]
                          refine ⟨σ ++ [some p], _, _, Ext.snoc _ _, r', by simpa using hrun, ?_⟩
                          have := VR.sliceInf (n := 0 + n) (c := nc) (i := 0) hgn hnc (by
                            rw [hpr, hpe, reps_length, hzl, ← A.rel.length, A.len, ← Nat.add_mul, Nat.zero_add]
                            exact Nat.mul_le_mul_right _ (by omega))
                          rw [hpo, hpb, Nat.zero_add] at this; simpa using this
                        · cases e
                    · cases e
                  | sliceInf hp hn hr =>
                    rename_i c p0
                    split at e
                    · rename_i vs esz hg
                      have hbr := r.br b _ p0 hg hp
                      obtain ⟨he, hN, cc, T, fz, hc3, hc4, hc5, hc6, hc7⟩ := hbr
                      split at e
                      · rename_i hn0
                        simp only [Nat.beq_eq] at hn0
                        cases e
                        subst hn0
                        have hnil : news' = [] := List.length_eq_zero_iff.1 (by rw [← A.rel.length, A.len]; omega)
                        refine ⟨σ, w, _, Ext.refl σ, r, run_room hT hd hi hz hzs rfl A (by omega) (by omega) q3 (by rw [hnil]; simp [storeCells]), .sliceInf hp hn hr⟩
                      · split at e
                        · rename_i hq6
                          simp only [Bool.and_eq_true, Nat.beq_eq, Nat.ble_eq] at hq6
                          obtain ⟨hes, hvl⟩ := hq6
                          cases e
                          have hps : p0.esz = i.size := by rw [he, hes]
                          -- the cells that lie there
                          have hreadN : Ev.readN h b i0 (len * i.size) = some ((vs.drop i0).take (len * i.size)) := by
                            unfold Ev.readN AH.cells; simp only [hg]; rw [if_pos (by simpa [Nat.ble_eq] using hvl)]
                          by_cases hle : len + n ≤ c
                          · -- in place
                            have hmul : i0 + (len + n) * i.size ≤ p0.room := by
                              have := Nat.mul_le_mul_right i.size hle
                              rw [hps] at hr; omega
                            have hlen_news : news.length = n * i.size := A.len
                            have hln' : news'.length = n * i.size := by rw [← A.rel.length]; exact A.len
                            have hmul2 : (len + n) * i.size = len * i.size + n * i.size := Nat.add_mul _ _ _
                            obtain ⟨w', c', hrun, hb', hs', hout, hin, hz', ho', ht', hou', hk'⟩ := store_run P news' w p0.blk (p0.off + i0 + len * i.size) 0 cc T fz hc3 (by omega) (fun k h1 h2 => unfz hc6 (by omega)) (A.rel.one q5)
                            have rd : R w0 σ (h.set b .dead) w' := r.turn hg rfl hp hz' ho' ht' hou' hk' trivial
                            let p' : Pl := ⟨p0.blk, p0.off + i0, p0.room - i0, i.size, 0⟩
                            have hold : ∀ k v, ((vs.drop i0).take (len * i.size))[k]? = some v → k < len * i.size ∧ vs[i0 + k]? = some v := by
                              intro k v hv
                              rw [List.getElem?_take] at hv
                              split at hv
                              · rw [List.getElem?_drop] at hv; exact ⟨by assumption, hv⟩
                              · cases hv
                            have hlold : ((vs.drop i0).take (len * i.size)).length = len * i.size := by simp; omega
                            have hbr : BR w0.ok (σ ++ [some p']) w'.heap[p'.blk]? (.cells ((vs.drop i0).take (len * i.size) ++ news) i.size) p' := by
                              refine ⟨rfl, hN, c', T, fz, hb', ?_, ?_, ?_, ?_⟩
                              · show p0.off + i0 + (p0.room - i0) ≤ c'.size; rw [hs']; omega
                              · show _ ≤ p0.room - i0; rw [List.length_append, hlold, A.len]; omega
                              · rw [hs']; exact hc6
                              · intro k v hv
                                show ∃ v', c'[p0.off + i0 + k]? = some v' ∧ _
                                by_cases hkl : k < len * i.size
                                · rw [List.getElem?_append_left (by rw [hlold]; exact hkl)] at hv
                                  obtain ⟨_, hv2⟩ := hold k v hv
                                  obtain ⟨v', hv', hr'⟩ := hc7 (i0 + k) v hv2
                                  refine ⟨v', ?_, hr'.mono (Ext.snoc _ _)⟩
                                  rw [hout (p0.off + i0 + k) (by omega), Nat.add_assoc]; exact hv'
                                · rw [List.getElem?_append_right (by rw [hlold]; omega), hlold] at hv
                                  obtain ⟨v', hv', hr'⟩ := A.rel.get hv
                                  refine ⟨v', ?_, hr'.mono (Ext.snoc _ _)⟩
                                  have := hin _ v' hv'
                                  rw [show p0.off + i0 + k = p0.off + i0 + len * i.size + 0 + (k - len * i.size) by omega]; exact this
                            have hne : ∀ (j : Nat) (bj : ABlk) (pj : Pl), (h.set b .dead).get j = some bj → bj.live = true → pl σ j = some pj → pj.blk ≠ p'.blk := by
                              intro j bj pj hj hlj hpj hh
                              rw [AH.get_set h r.len b (AH.get_lt hg)] at hj
                              split at hj
                              · cases hj; cases hlj
                              · rename_i hjb; exact hjb (r.inj j b bj _ pj p0 hj hg hlj rfl hpj hp hh)
                            have hfree : Free σ (h.set b .dead) (.cells ((vs.drop i0).take (len * i.size) ++ news) i.size) p' := {
                              live := fun j bj pj hj hlj hpj _ => hne j bj pj hj hlj hpj
                              lst := fun j n1 sz1 es1 pj hj hpj hrj _ => by
                                rw [AH.get_set h r.len b (AH.get_lt hg)] at hj
                                split at hj
                                · cases hj
                                · exact r.lone j b n1 sz1 es1 _ pj p0 hj hg rfl hpj hp hrj
                              kept := fun k v _ hv => (r.kown _ k v hv).1 b _ p0 hg rfl hp rfl
                              under := fun k n1 sz1 es1 v hh => by cases hh }
                            have r' := rd.push hbr (fun _ _ => hfree)
                            refine ⟨σ ++ [some p'], w', _, Ext.snoc _ _, r', run_room hT hd hi hz hzs rfl A hle (by omega) q3 (by simp only [Addr.add_eq]; exact hrun), ?_⟩
                            have := VR.sliceInf (n := len + n) (c := c) (i := 0) (get_new rd p') hle (by show 0 + c * i.size ≤ p0.room - i0; rw [hps] at hr; omega)
                            exact this
                          · obtain ⟨old', hl1, hv1, hlen1, _⟩ := r.drew.readN (P := P) hreadN hp
                            have hold : (Builtin.firstCells i.size len (.slice (some ⟨p0.blk, p0.off + i0, none⟩) len c)).run P w.drew = .ok ⟨old'⟩ w.drew := hl1
                            obtain ⟨nc, hnc, hrun⟩ := run_grow (ty := ty) hT hd hi hz hzs rfl A hle q4 q3 q2 hold
                            have rd := r.drew.dead hg rfl hp
                            obtain ⟨p, hpb, hpo, hpr, hpe, r'⟩ := new_sound rd elem (hv1.append A.rel) i.size _ (reps z.cells.toList (nc - (len + n))) rfl
                            have hgn : pl (σ ++ [some p]) h.n = some p := get_new r p
                            refine ⟨σ ++ [some p], _, _, Ext.snoc _ _, r', hrun, ?_⟩
                            have := VR.sliceInf (n := len + n) (c := nc) (i := 0) hgn hnc (by
                              rw [hpr, hpe, reps_length, hzl, List.length_append, ← hv1.length, hlen1, ← A.rel.length, A.len, ← Nat.add_mul, ← Nat.add_mul, Nat.zero_add]
                              exact Nat.mul_le_mul_right _ (by omega))
                            rw [hpo, hpb] at this; exact this
                        · cases e
                    · cases e
                · cases e
            · cases e
          · cases e
        · cases e
      · cases e
    · cases e

end
end Go.Proofs.YtmcmaklilfgdiaaGreat.Ev
