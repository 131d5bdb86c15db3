/- Each operation of the evaluator is the machine's: places, parts, rows. -/
import Derived.Test.YtmcmaklilfgdiaaGreatEd
namespace Go.Proofs.YtmcmaklilfgdiaaGreat.Ev
open Go Go.RowKit

section
variable {P : Program} {σ : Sg} {w0 : Bs} {h : AH} {w : World}

theorem inf_not_lt : Nat.blt inf inf = false := by
  cases hh : Nat.blt inf inf with
  | false => rfl
  | true => simp [Nat.blt_eq] at hh

inductive VRo (σ : Sg) : Option Value → Option Value → Prop
  | none : VRo σ none none
  | some {v v' : Value} (h : VR σ v v') : VRo σ (some v) (some v')

theorem bound_sound {x x' : Value} {y l d : Nat} (code : BoundsCode) (hx : VR σ x x') (e : boundE (some x) d y = some l) (w : World) :
    (Instr.sliceBound x' y code).run P w = .ok l w ∧ l ≤ y := by
  unfold boundE at e
  split at e
  · rename_i hh; cases hh
  · rename_i k i hh
    cases hh; cases hx
    split at e
    · rename_i hc; cases e
      refine ⟨?_, by omega⟩
      simp [Instr.sliceBound, asIntOf, hc]
    · cases e
  · cases e

theorem bounds_sound {lo lo' hi hi' mx mx' : Option Value} {len cap l hh m : Nat} (s : Bool) (h1 : VRo σ lo lo') (h2 : VRo σ hi hi') (h3 : VRo σ mx mx')
    (e3 : boundE mx cap cap = some m) (e2 : boundE hi len m = some hh) (e1 : boundE lo 0 hh = some l) (hn : (mx.isSome && hi.isNone) = false) (w : World) :
    (Instr.sliceBounds s len cap lo' hi' mx').run P w = .ok (l, hh, m) w ∧ (l ≤ hh) ∧ m ≤ cap ∧ (hi.isSome = true → hh ≤ m) := by
  cases h3 with
  | none =>
    cases e3
    cases h2 with
    | none =>
      cases e2
      cases h1 with
      | none => cases e1; exact ⟨by simp [Instr.sliceBounds], by omega, by omega, by simp⟩
      | some h1 =>
        have := bound_sound (P := P) .sliceB h1 e1 w
        exact ⟨by simp [Instr.sliceBounds, this.1], this.2, by omega, by simp⟩
    | some h2 =>
      have b2 := fun c => bound_sound (P := P) c h2 e2 w
      cases h1 with
      | none => cases e1; exact ⟨by simp [Instr.sliceBounds, (b2 _).1], by omega, by omega, fun _ => (b2 .sliceB).2⟩
      | some h1 =>
        have := bound_sound (P := P) .sliceB h1 e1 w
        exact ⟨by simp [Instr.sliceBounds, this.1, (b2 _).1], this.2, by omega, fun _ => (b2 .sliceB).2⟩
  | some h3 =>
    have b3 := fun c => bound_sound (P := P) c h3 e3 w
    cases h2 with
    | none => simp at hn
    | some h2 =>
      have b2 := fun c => bound_sound (P := P) c h2 e2 w
      cases h1 with
      | none => cases e1; exact ⟨by simp [Instr.sliceBounds, (b2 _).1, (b3 _).1], by omega, (b3 .sliceB).2, fun _ => (b2 .sliceB).2⟩
      | some h1 =>
        have b1 := fun c => bound_sound (P := P) c h1 e1 w
        exact ⟨by simp [Instr.sliceBounds, (b1 _).1, (b2 _).1, (b3 _).1], (b1 .sliceB).2, (b3 .sliceB).2, fun _ => (b2 .sliceB).2⟩

theorem addE_VR {b i n : Nat} {p : Pl} (hp : pl σ b = some p) (k c : Nat) (hc : c < inf) (m l : Nat) :
    VR σ (.slice (if m = l then some ⟨b, i, none⟩ else addE b i n) k c) (.slice (if m = l then some ⟨p.blk, p.off + i, none⟩ else some ((⟨p.blk, p.off + i, none⟩ : Addr).add n)) k c) := by
  split
  · exact .slice hp hc
  · rw [Addr.add_eq, addE, Nat.add_assoc]; exact .slice hp hc

theorem slice_sound (r : R w0 σ h w) {t : TypeId} {x x' v : Value} {lo lo' hi hi' mx mx' : Option Value} (hx : VR σ x x') (h1 : VRo σ lo lo') (h2 : VRo σ hi hi') (h3 : VRo σ mx mx')
    (e : sliceE P h t x lo hi mx = some v) : ∃ v', (Instr.sliceAt t x' lo' hi' mx').run P w = .ok v' w ∧ VR σ v v' := by
  unfold sliceE at e
  split at e
  · -- a string
    rename_i s hd
    cases hx
    split at e
    · cases e
    · rename_i hmx
      cases h3 with
      | some _ => simp at hmx
      | none =>
        split at e
        · rename_i hh e2
          split at e
          · rename_i l e1
            cases e
            have hb := (bounds_sound (P := P) false h1 h2 .none (len := s.size) (cap := s.size) rfl e2 e1 (by simp) w).1
            refine ⟨.string (s.extract l hh), ?_, .string _⟩
            simp [Instr.sliceAt, run_underlying' hd, Instr.slice, hb]
          · cases e
        · cases e
  · -- a slice
    rename_i elem a len cap hd
    split at e
    · rename_i size hsz
      split at e
      · rename_i hcap
        simp only [Nat.blt_eq] at hcap
        split at e
        · rename_i m e3
          split at e
          · rename_i hh e2
            split at e
            · rename_i l e1
              split at e
              · cases e
              · rename_i hn
                simp only [Bool.not_eq_true] at hn
                obtain ⟨hb, hl, hm, _⟩ := bounds_sound (P := P) true h1 h2 h3 e3 e2 e1 hn w
                split at e
                · cases hx
                  split at e
                  · rename_i hz
                    obtain ⟨rfl, rfl, rfl⟩ := hz
                    cases e
                    exact ⟨.slice none 0 0, by simp [Instr.sliceAt, run_underlying' hd, Instr.slice, hb, run_sizeOf' hsz], .nilslice⟩
                  · cases e
                · rename_i b i
                  cases e
                  cases hx with
                  | slice hp hc =>
                    refine ⟨_, ?_, addE_VR hp (hh - l) (m - l) (by omega) m l⟩
                    simp only [Instr.sliceAt, Sem.run_bind, run_underlying' hd, Result.andThen_ok, Instr.slice, hb, run_sizeOf' hsz, Sem.run_pure, Option.map_some]
                  | sliceInf hp hn hr => exact absurd hcap (by simp)
                  | sliceEnd hp x => exact absurd hcap (by simp)
                · cases e
            · cases e
          · cases e
        · cases e
      · rename_i hcap
        simp only [Nat.blt_eq] at hcap
        split at e
        · rename_i b i
          cases hx with
          | slice hp hc => exact absurd hc hcap
          | sliceEnd hp x =>
            split at e
            · cases h3
              split at e
              · rename_i hh e2
                split at e
                · rename_i l e1
                  have hh0 : hh = 0 := by
                    cases h2 with
                    | none => cases e2; rfl
                    | some h2 => have := (bound_sound (P := P) .sliceB h2 e2 w).2; omega
                  subst hh0
                  have hl0 : l = 0 := by
                    cases h1 with
                    | none => cases e1; rfl
                    | some h1 => have := (bound_sound (P := P) .sliceB h1 e1 w).2; omega
                  subst hl0
                  rw [if_pos rfl] at e
                  cases e
                  have hb := (bounds_sound (P := P) true h1 h2 .none (len := 0) (cap := 0) rfl e2 e1 (by simp) w).1
                  refine ⟨.slice (some x) 0 0, ?_, .sliceEnd hp x⟩
                  simp only [Instr.sliceAt, Sem.run_bind, run_underlying' hd, Result.andThen_ok, Instr.slice, hb, run_sizeOf' hsz, Sem.run_pure, if_true, Nat.sub_self]
                · cases e
              · cases e
            · split at e
              · split at e
                · split at e
                  · split at e
                    · cases e
                    · rename_i hq
                      simp at hq
                  · cases e
                · cases e
              · cases e
          | sliceInf hp hn hr =>
            rename_i c p
            split at e
            · cases h3
              split at e
              · rename_i hh e2
                split at e
                · rename_i l e1
                  split at e
                  · rename_i hl; subst hl
                    cases e
                    have e2' : boundE hi len c = some hh := by
                      cases h2 with
                      | none => cases e2; rfl
                      | some h2 =>
                        unfold boundE at e2 ⊢
                        split at e2
                        · rename_i q; cases q
                        · rename_i q; cases q
                          split at e2
                          · cases e2; rw [if_pos (by omega)]
                          · cases e2
                        · cases e2
                    have hle : hh ≤ len := by
                      cases h2 with
                      | none => cases e2; omega
                      | some h2 => exact (bound_sound (P := P) .sliceB h2 e2 w).2
                    have hb := (bounds_sound (P := P) true h1 h2 .none (len := len) (cap := c) rfl e2' e1 (by simp) w).1
                    refine ⟨.slice (some ⟨p.blk, p.off + i, none⟩) hh c, ?_, .sliceInf hp (by omega) hr⟩
                    simp only [Instr.sliceAt, Sem.run_bind, run_underlying' hd, Result.andThen_ok, Instr.slice, hb, run_sizeOf' hsz, Sem.run_pure, Option.map_some, Nat.zero_mul, Nat.sub_zero]
                    congr 2
                    split <;> simp [Addr.add]
                  · rename_i hl0
                    split at e
                    · rename_i ez hez
                      split at e
                      · rename_i hq
                        simp only [Nat.beq_eq] at hq
                        subst hq
                        cases e
                        have hpe : p.esz = ez := by
                          unfold eszE at hez
                          split at hez
                          · rename_i vs e2 hg
                            cases hez
                            exact (r.br _ _ p hg hp).1
                          · cases hez
                        have e2' : boundE hi len c = some hh := by
                          cases h2 with
                          | none => cases e2; rfl
                          | some h2 =>
                            unfold boundE at e2 ⊢
                            split at e2
                            · rename_i q; cases q
                            · rename_i q; cases q
                              split at e2
                              · cases e2; rw [if_pos (by omega)]
                              · cases e2
                            · cases e2
                        have hle : hh ≤ len := by
                          cases h2 with
                          | none => cases e2; omega
                          | some h2 => exact (bound_sound (P := P) .sliceB h2 e2 w).2
                        have hb := (bounds_sound (P := P) true h1 h2 .none (len := len) (cap := c) rfl e2' e1 (by simp) w).1
                        have hlh : l ≤ hh := by
                          cases h1 with
                          | none => cases e1; omega
                          | some h1 => exact (bound_sound (P := P) .sliceB h1 e1 w).2
                        by_cases hne : c = l
                        · have h00 : hh - l = 0 := by omega
                          rw [h00]
                          refine ⟨.slice (some ⟨p.blk, p.off + i, none⟩) 0 0, ?_, .sliceEnd hp _⟩
                          simp only [Instr.sliceAt, Sem.run_bind, run_underlying' hd, Result.andThen_ok, Instr.slice, hb, run_sizeOf' hsz, Sem.run_pure, if_pos hne, h00]
                          rw [hne, Nat.sub_self]
                        · refine ⟨.slice (some ((⟨p.blk, p.off + i, none⟩ : Addr).add (l * ez))) (hh - l) (c - l), ?_, ?_⟩
                          · simp only [Instr.sliceAt, Sem.run_bind, run_underlying' hd, Result.andThen_ok, Instr.slice, hb, run_sizeOf' hsz, Sem.run_pure, Option.map_some, if_neg hne]
                          · rw [Addr.add_eq, addE, Nat.add_assoc]
                            refine .sliceInf hp (by omega) ?_
                            rw [hpe] at hr ⊢
                            have : (c - l) * ez + l * ez = c * ez := by rw [← Nat.add_mul]; congr 1; omega
                            omega
                      · cases e
                    · cases e
                · cases e
              · cases e
            · rename_i mv
              cases h3 with
              | some h3 =>
                split at e
                · rename_i m e3
                  split at e
                  · rename_i hh e2
                    split at e
                    · rename_i l e1
                      split at e
                      · cases e
                      · rename_i hq
                        cases e
                        simp only [Bool.or_eq_true, Bool.not_eq_true', not_or, Bool.not_eq_true, Bool.not_eq_false] at hq
                        have hminf : m < inf := by simpa [Nat.blt_eq] using hq.1.2
                        have hm3 := (bound_sound (P := P) .sliceB h3 e3 w).2
                        have e3' : boundE (some mv) c c = some m := by
                          unfold boundE at e3 ⊢
                          split at e3
                          · rename_i q; cases q
                          · rename_i q; cases q
                            split at e3
                            · cases e3; rw [if_pos (by omega)]
                            · cases e3
                          · cases e3
                        have hb := (bounds_sound (P := P) true h1 h2 (.some h3) (len := len) (cap := c) e3' e2 e1 (by simp [hq.1.1]) w).1
                        refine ⟨_, ?_, addE_VR hp (hh - l) (m - l) (by omega) m l⟩
                        simp only [Instr.sliceAt, Sem.run_bind, run_underlying' hd, Result.andThen_ok, Instr.slice, hb, run_sizeOf' hsz, Sem.run_pure, Option.map_some]
                    · cases e
                  · cases e
                · cases e
        · cases e
    · cases e
  · -- an array
    rename_i n elem b i hd
    split at e
    · rename_i size hsz
      split at e
      · rename_i m e3
        split at e
        · rename_i hh e2
          split at e
          · rename_i l e1
            split at e
            · cases e
            · rename_i hq
              cases e
              simp only [Bool.or_eq_true, Bool.not_eq_true', not_or, Bool.not_eq_true, Bool.not_eq_false] at hq
              have hminf : m < inf := by simpa [Nat.blt_eq] using hq.2
              obtain ⟨p, hp, rfl⟩ := ptr_inv hx
              have hb := (bounds_sound (P := P) false h1 h2 h3 e3 e2 e1 hq.1 w).1
              refine ⟨_, ?_, addE_VR hp (hh - l) (m - l) (by omega) m l⟩
              simp only [Instr.sliceAt, Sem.run_bind, run_underlying' hd, Result.andThen_ok, Instr.sureAddr, hb, run_sizeOf' hsz, Sem.run_pure]
              congr 2
              split <;> rfl
          · cases e
        · cases e
      · cases e
    · cases e
  · cases e

theorem part_sound {t : TypeId} {cs cs' : List Value} {off : Nat} {v : Value} (hc : VRs σ cs cs') (e : partE P t cs off = some v) (w : World) :
    ∃ v', (part t ⟨cs'⟩ off).run P w = .ok v' w ∧ VR σ v v' := by
  unfold partE at e
  split at e
  · rename_i ha
    split at e
    · rename_i n hn
      cases e
      refine ⟨_, by simp only [part, Sem.run_bind, run_isAgg' ha, Result.andThen_ok, if_true, run_sizeOf' hn, Sem.run_pure]; rfl, ?_⟩
      have := (hc.drop off).take (off + n - off)
      have he : (Array.extract ⟨cs'⟩ off (off + n)) = ⟨(cs'.drop off).take (off + n - off)⟩ := by
        apply Array.ext'; simp
      rw [he]; exact .agg this
    · cases e
  · rename_i ha
    obtain ⟨v', hv', hr⟩ := hc.get e
    refine ⟨v', ?_, hr⟩
    have : (⟨cs'⟩ : Array Value)[off]? = some v' := by simpa using hv'
    simp only [part, Sem.run_bind, run_isAgg' ha, Result.andThen_ok, Bool.false_eq_true, if_false, this, Sem.run_pure]
  · cases e

theorem indexAddr_sound {t : TypeId} {x x' ix ix' v : Value} (hx : VR σ x x') (hi : VR σ ix ix') (e : indexAddrE P t x ix = some v) (w : World) :
    ∃ v', (Instr.indexAt t x' ix').run P w = .ok v' w ∧ VR σ v v' := by
  unfold indexAddrE at e
  split at e
  · rename_i k i
    cases hi
    split at e
    · rename_i len elem b o hd
      obtain ⟨p, hp, rfl⟩ := ptr_inv hx
      split at e
      · rename_i hc
        simp only [Option.map_eq_some_iff] at e
        obtain ⟨n, hn, rfl⟩ := e
        refine ⟨.pointer (some ((⟨p.blk, p.off + o, none⟩ : Addr).add (i.toNat * n))), ?_, ?_⟩
        · simp [Instr.indexAt, asIntOf, run_underlying' hd, Instr.sureAddr, hc, run_sizeOf' hn]
        · rw [Addr.add_eq, addE, Nat.add_assoc]; exact .ptr hp
      · cases e
    · rename_i elem b o len cap hd
      split at e
      · rename_i hc
        simp only [Option.map_eq_some_iff] at e
        obtain ⟨n, hn, rfl⟩ := e
        have key : ∃ p, pl σ b = some p ∧ ∃ c', x' = .slice (some ⟨p.blk, p.off + o, none⟩) len c' := by
          cases hx with
          | sliceEnd hp x => omega
          | slice hp _ => exact ⟨_, hp, _, rfl⟩
          | sliceInf hp _ _ => exact ⟨_, hp, _, rfl⟩
        obtain ⟨p, hp, c', rfl⟩ := key
        refine ⟨.pointer (some ((⟨p.blk, p.off + o, none⟩ : Addr).add (i.toNat * n))), ?_, ?_⟩
        · simp [Instr.indexAt, asIntOf, run_underlying' hd, hc, run_sizeOf' hn]
        · rw [Addr.add_eq, addE, Nat.add_assoc]; exact .ptr hp
      · cases e
    · cases e
  · cases e

theorem fieldAddr_sound {t : TypeId} {x x' v : Value} {f : Nat} (hx : VR σ x x') (e : fieldAddrE P t x f = some v) (w : World) :
    ∃ v', (Instr.fieldAt t x' f).run P w = .ok v' w ∧ VR σ v v' := by
  unfold fieldAddrE at e
  split at e
  · rename_i fields b o hd
    obtain ⟨p, hp, rfl⟩ := ptr_inv hx
    split at e
    · rename_i fd hf
      split at e
      · rename_i n hn
        cases e
        refine ⟨.pointer (some ((⟨p.blk, p.off + o, none⟩ : Addr).add fd.offset)), ?_, ?_⟩
        · simp [Instr.fieldAt, run_underlying' hd, hf, Instr.sureAddr, fieldPlace, run_sizeOf' hn]
        · rw [Addr.add_eq, addE, Nat.add_assoc]; exact .ptr hp
      · cases e
    · cases e
  · cases e

theorem index_sound {t : TypeId} {x x' ix ix' v : Value} (hx : VR σ x x') (hi : VR σ ix ix') (e : indexE P t x ix = some v) (w : World) :
    ∃ v', (Instr.index t x' ix').run P w = .ok v' w ∧ VR σ v v' := by
  unfold indexE at e
  split at e
  · rename_i k i
    cases hi
    split at e
    · rename_i len elem cs hd
      cases hx with
      | agg hcs =>
        split at e
        · rename_i hc
          split at e
          · rename_i n hn
            obtain ⟨v', hrun, hr⟩ := part_sound (P := P) hcs e w
            exact ⟨v', by simp [Instr.index, asIntOf, run_underlying' hd, hc, run_sizeOf' hn, hrun], hr⟩
          · cases e
        · cases e
    · rename_i s hd
      cases hx
      split at e
      · rename_i hc
        simp only [Option.map_eq_some_iff] at e
        obtain ⟨b, hb, rfl⟩ := e
        exact ⟨_, by simp [Instr.index, asIntOf, run_underlying' hd, hc, hb], .int _ _⟩
      · cases e
    · cases e
  · cases e

theorem field_sound {t : TypeId} {cs cs' : List Value} {v : Value} {f : Nat} {fields : Array Field} {fd : Field} (hx : VRs σ cs cs') (hd : P.underlying t = some (.struct fields)) (hf : fields[f]? = some fd)
    (e : partE P fd.type cs fd.offset = some v) (w : World) : ∃ v', (Instr.field t (.agg ⟨cs'⟩) f).run P w = .ok v' w ∧ VR σ v v' := by
  obtain ⟨v', hrun, hr⟩ := part_sound (P := P) hx e w
  exact ⟨v', by simp [Instr.field, run_underlying' hd, hf, asAgg, hrun], hr⟩

end
end Go.Proofs.YtmcmaklilfgdiaaGreat.Ev
