/- A region that draws its order: what the trace says of each place. -/
import Derived.Test.YtmcmaklilfgdiaaGreatEr
namespace Go.Proofs.YtmcmaklilfgdiaaGreat.Ev
open Go Go.RowKit

section
variable {P : Program} {ih : Task → AH → Option Out} {ops : Array Oper} {ord : List Nat}

theorem opE_fillA {ρ : Operand → Option Value} {ty : TypeId} {op : Op} {h h1 : AH} {an : AN} (hf : fillOp op = true) (hop : opE P ρ ty op h = some (an, h1)) :
    ∃ vs esz, h1 = h.push (.cells vs esz) := by
  cases op <;> simp only [fillOp, Bool.false_eq_true] at hf
  case alloc T =>
    simp only [opE, Option.map_eq_some_iff] at hop
    obtain ⟨z, hz, hh⟩ := hop; cases hh
    exact ⟨_, _, rfl⟩
  case box T x =>
    simp only [opE, Option.map_eq_some_iff] at hop
    obtain ⟨z, hz, hh⟩ := hop; cases hh
    exact ⟨_, _, rfl⟩
  case buildSlice t len parts =>
    simp only [opE] at hop
    split at hop
    · simp only [Option.map_eq_some_iff] at hop
      obtain ⟨⟨v, h2⟩, e, hh⟩ := hop; cases hh
      unfold buildSliceE at e
      (repeat' split at e) <;> cases e
      exact ⟨_, _, rfl⟩
    · cases hop

theorem opE_fillV {ρ : Operand → Option Value} {ty : TypeId} {op : Op} {h h1 : AH} {an : AN} (hf : fillOp op = true) (hop : opE P ρ ty op h = some (an, h1)) :
    ∃ v, an = .value v := by
  cases op <;> simp only [fillOp, Bool.false_eq_true] at hf
  case alloc T =>
    simp only [opE, Option.map_eq_some_iff] at hop
    obtain ⟨z, hz, hh⟩ := hop; cases hh
    exact ⟨_, rfl⟩
  case box T x =>
    simp only [opE, Option.map_eq_some_iff] at hop
    obtain ⟨z, hz, hh⟩ := hop; cases hh
    exact ⟨_, rfl⟩
  case buildSlice t len parts =>
    simp only [opE] at hop
    split at hop
    · simp only [Option.map_eq_some_iff] at hop
      obtain ⟨⟨v, h2⟩, e, hh⟩ := hop; cases hh
      exact ⟨_, rfl⟩
    · cases hop

/-- what the trace says -/
structure Tr (P : Program) (ih : Task → AH → Option Out) (ops : Array Oper) (ord : List Nat) (A : Nat → AF) (H : Nat → AH) (V : Nat → Value) : Prop where
  sta : Sta P ops ord
  put : ∀ q i o, q < ops.size → ord[q]? = some i → ops[i]? = some o → A (q + 1) = (A q).put o.dst (V q)
  no : ∀ q i o, q < ops.size → ord[q]? = some i → ops[i]? = some o → wantedE ops o (A q).tmps = false → V q = undef ∧ H (q + 1) = H q
  yes : ∀ q i o, q < ops.size → ord[q]? = some i → ops[i]? = some o → wantedE ops o (A q).tmps = true → ∀ a2 : AF, a2.rnd = (A q).rnd → (∀ x ∈ o.op.operands, a2.eval x = (A q).eval x) →
    stepE P ih o a2 (H q) = some (a2.put o.dst (V q), H (q + 1))
  light : ∀ q i o, q < ops.size → ord[q]? = some i → ops[i]? = some o → wantedE ops o (A q).tmps = true → lightOp P o.op = true → H (q + 1) = H q ∧
    ∀ j, q < j → j ≤ ops.size → openE P ops ord q j = true → ∀ a2 : AF, a2.rnd = (A q).rnd → (∀ x ∈ o.op.operands, a2.eval x = (A q).eval x) → stepE P ih o a2 (H j) = some (a2.put o.dst (V q), H j)
  fill : ∀ q i o, q < ops.size → ord[q]? = some i → ops[i]? = some o → wantedE ops o (A q).tmps = true → fillOp o.op = true → (∃ vs esz, H (q + 1) = (H q).push (.cells vs esz)) ∧ (H 0).n ≤ (H q).n ∧
    ∀ j, q < j → j ≤ ops.size → (H q).n < (H j).n ∧ (openE P ops ord q j = true → ∃ vs esz, (H (q + 1)).get (H q).n = some (.cells vs esz) ∧ (H j).get (H q).n = some (.cells vs esz))

theorem light_one {o : Oper} {a : AF} {h : AH} {x : AF × AH} (hl : lightOp P o.op = true) (e : stepE P ih o a h = some x) :
    ∃ v, opE P a.eval o.type o.op h = some (.value v, h) ∧ x = (a.put o.dst v, h) := by
  unfold stepE at e
  split at e
  · rename_i v h1 hop
    obtain ⟨v', g1, g2, _⟩ := opE_light hl hop
    cases g1; subst g2
    cases e
    exact ⟨v, hop, rfl⟩
  all_goals first
    | (rename_i hop; obtain ⟨v', g1, g2, _⟩ := opE_light hl hop; cases g1)
    | cases e

theorem fill_one {o : Oper} {a : AF} {h : AH} {x : AF × AH} (hl : fillOp o.op = true) (e : stepE P ih o a h = some x) :
    ∃ v vs esz, opE P a.eval o.type o.op h = some (.value v, h.push (.cells vs esz)) ∧ x = (a.put o.dst v, h.push (.cells vs esz)) := by
  unfold stepE at e
  split at e
  · rename_i v h1 hop
    obtain ⟨vs, esz, rfl⟩ := opE_fillA hl hop
    cases e
    exact ⟨v, vs, esz, hop, rfl⟩
  all_goals first
    | (rename_i hop; obtain ⟨v', g1⟩ := opE_fillV hl hop; cases g1)
    | cases e

theorem tr_of {a : AF} {h : AH} {l : List (AF × AH)} (hs : staticOk P ops ord = true) (ht : traceE P ih ops ord a h = some l) (hd : dynOk P ops ord l = true) :
    ∃ (A : Nat → AF) (H : Nat → AH) (V : Nat → Value), Tr P ih ops ord A H V ∧ A 0 = a ∧ H 0 = h ∧ l.getLast? = some (A ops.size, H ops.size) := by
  have S := sta_of hs
  obtain ⟨t1, t2, t3⟩ := trace_spec ord ht
  rw [S.len] at t1
  let A : Nat → AF := fun q => ((l[q]?).getD (a, h)).1
  let H : Nat → AH := fun q => ((l[q]?).getD (a, h)).2
  have hl : ∀ q, q ≤ ops.size → l[q]? = some (A q, H q) := by
    intro q hq
    have : q < l.length := by omega
    show l[q]? = some (((l[q]?).getD (a, h)).1, ((l[q]?).getD (a, h)).2)
    rw [List.getElem?_eq_getElem this]
    rfl
  have hstep : ∀ q i o, q < ops.size → ord[q]? = some i → ops[i]? = some o → (if wantedE ops o (A q).tmps then stepE P ih o (A q) (H q) else some ((A q).put o.dst undef, H q)) = some (A (q + 1), H (q + 1)) := by
    intro q i o hq hi ho
    obtain ⟨s, s', k1, k2, k3⟩ := t3 q i hi
    rw [hl q (by omega)] at k1; cases k1
    rw [hl (q + 1) (by omega)] at k2; cases k2
    unfold step1 at k3
    rw [ho] at k3
    exact k3
  have hnd : ∀ q i o, q < ops.size → ord[q]? = some i → ops[i]? = some o → ∀ c, o.op ≠ .defer c := by
    intro q i o hq hi ho
    obtain ⟨i', o', g1, g2, g3, _⟩ := S.op q hq
    rw [hi] at g1; cases g1
    rw [ho] at g2; cases g2
    exact g3
  have hV : ∀ q, ∃ v : Value, ∀ i o, q < ops.size → ord[q]? = some i → ops[i]? = some o → A (q + 1) = (A q).put o.dst v ∧ (wantedE ops o (A q).tmps = false → v = undef ∧ H (q + 1) = H q) ∧
      (wantedE ops o (A q).tmps = true → ∀ a2 : AF, a2.rnd = (A q).rnd → (∀ x ∈ o.op.operands, a2.eval x = (A q).eval x) → stepE P ih o a2 (H q) = some (a2.put o.dst v, H (q + 1))) := by
    intro q
    by_cases hq : q < ops.size
    · obtain ⟨i, o, g1, g2, g3, _⟩ := S.op q hq
      have hst := hstep q i o hq g1 g2
      cases hw : wantedE ops o (A q).tmps with
      | true =>
        rw [hw] at hst
        simp only [if_true] at hst
        obtain ⟨v, k1, k2⟩ := stepE_congr g3 hst
        refine ⟨v, fun i' o' _ hi ho => ?_⟩
        rw [g1] at hi; cases hi
        rw [g2] at ho; cases ho
        exact ⟨k1, fun hh => (by rw [hw] at hh; cases hh), fun _ => k2⟩
      | false =>
        rw [hw] at hst
        simp only [Bool.false_eq_true, if_false, Option.some.injEq, Prod.mk.injEq] at hst
        refine ⟨undef, fun i' o' _ hi ho => ?_⟩
        rw [g1] at hi; cases hi
        rw [g2] at ho; cases ho
        exact ⟨hst.1.symm, fun _ => ⟨rfl, hst.2.symm⟩, fun hh => (by rw [hw] at hh; cases hh)⟩
    · exact ⟨undef, fun i o h => absurd h hq⟩
  obtain ⟨V, hV⟩ := Classical.axiomOfChoice hV
  have hdy : ∀ q i o, q < ops.size → ord[q]? = some i → ops[i]? = some o → wantedE ops o (A q).tmps = true → readOk P ops ord l q o (A q) (H q) = true ∧ fillOk P ops ord l q o (H q) = true := by
    intro q i o hq hi ho hw
    unfold dynOk at hd
    have := List.all_eq_true.1 hd q (List.mem_range.2 hq)
    rw [hi, hl q (by omega)] at this
    simp only [ho, hw, Bool.not_true, Bool.false_or, Bool.and_eq_true] at this
    exact this
  refine ⟨A, H, V, ⟨S, fun q i o hq hi ho => (hV q i o hq hi ho).1, fun q i o hq hi ho => (hV q i o hq hi ho).2.1, fun q i o hq hi ho => (hV q i o hq hi ho).2.2, ?_, ?_⟩, ?_, ?_, ?_⟩
  · intro q i o hq hi ho hw hlo
    have y := (hV q i o hq hi ho).2.2 hw
    have y0 := y (A q) rfl (fun _ _ => rfl)
    obtain ⟨v, k1, k2⟩ := light_one hlo y0
    simp only [Prod.mk.injEq] at k2
    obtain ⟨k2, k3⟩ := k2
    refine ⟨k3, fun j hj hjn hopen a2 hr hx => ?_⟩
    have y2 := y a2 hr hx
    obtain ⟨v2, m1, m2⟩ := light_one hlo y2
    rw [opE_congr o.type o.op _ hx, k1] at m1
    cases m1
    simp only [Prod.mk.injEq] at m2
    have hj2 : opE P a2.eval o.type o.op (H j) = some (.value v, H j) := by
      rw [opE_congr o.type o.op _ hx]
      cases hro : readsOp o.op with
      | false => obtain ⟨v', g1, _, g3⟩ := opE_light hlo k1
                 cases g1; exact g3 hro _
      | true =>
        have hrd := (hdy q i o hq hi ho hw).1
        unfold readOk at hrd
        simp only [hro, if_true, k1, List.all_eq_true, List.mem_range] at hrd
        have := hrd j (by omega)
        simp only [Bool.or_eq_true, Nat.blt_eq, hopen, Bool.not_true, Bool.false_eq_true, or_false] at this
        rcases this with hh | hh
        · omega
        · rw [hl j hjn] at hh
          simp only at hh
          split at hh
          · rename_i v' h' hop
            obtain ⟨v3, p1, p2, _⟩ := opE_light hlo hop
            cases p1; subst p2
            rw [hop, eqV_eq hh]
          · cases hh
    unfold stepE
    rw [hj2]
    simp only
    rw [m2.1]
  · intro q i o hq hi ho hw hfo
    have y := (hV q i o hq hi ho).2.2 hw
    have y0 := y (A q) rfl (fun _ _ => rfl)
    obtain ⟨v, vs, esz, k1, k2⟩ := fill_one hfo y0
    simp only [Prod.mk.injEq] at k2
    have hfk := (hdy q i o hq hi ho hw).2
    unfold fillOk at hfk
    rw [hl 0 (by omega), hl (q + 1) (by omega)] at hfk
    simp only [hfo, if_true] at hfk
    split at hfk
    · rename_i vs0 esz0 hg
      simp only [Bool.and_eq_true, Nat.ble_eq, List.all_eq_true, List.mem_range] at hfk
      refine ⟨⟨vs, esz, k2.2⟩, hfk.1, fun j hj hjn => ?_⟩
      have := hfk.2 j (by omega)
      simp only [Bool.or_eq_true, Nat.ble_eq] at this
      rcases this with hh | hh
      · omega
      · rw [hl j hjn] at hh
        simp only [Bool.and_eq_true, Nat.blt_eq] at hh
        refine ⟨hh.1, fun hopen => ⟨vs0, esz0, hg, ?_⟩⟩
        have h2 := hh.2
        simp only [hopen, Bool.not_true, Bool.false_or] at h2
        split at h2
        · rename_i vs' esz' hg'
          simp only [Bool.and_eq_true, Nat.beq_eq] at h2
          rw [hg', eqL_eq h2.1, h2.2]
        · cases h2
    · cases hfk
  · show ((l[0]?).getD (a, h)).1 = a
    rw [t2]; rfl
  · show ((l[0]?).getD (a, h)).2 = h
    rw [t2]; rfl
  · rw [List.getLast?_eq_getElem?, t1]
    exact hl ops.size (by omega)

end
end Go.Proofs.YtmcmaklilfgdiaaGreat.Ev
