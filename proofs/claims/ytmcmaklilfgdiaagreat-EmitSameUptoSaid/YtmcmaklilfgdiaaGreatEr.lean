/- A region that draws its order: whatever order is drawn, it comes to what the evaluator says. -/
import Derived.Test.YtmcmaklilfgdiaaGreatEq
import Derived.Orders
namespace Go.Proofs.YtmcmaklilfgdiaaGreat.Ev
open Go Go.RowKit

def putL (t : List Value) (dst : Option Tmp) (v : Value) : List Value :=
  match dst with
  | some d => t.set d v
  | none => t

theorem put_eq (a : AF) (dst : Option Tmp) (v : Value) : a.put dst v = { a with tmps := putL a.tmps dst v } := by
  cases dst <;> simp [AF.put, putL, setL_eq]

/-- what is applied so far of a row of puts -/
def tm (t0 : List Value) (ds : Nat → Option Tmp) (V : Nat → Value) (D : Nat → Bool) : Nat → List Value
  | 0 => t0
  | q + 1 => if D q then putL (tm t0 ds V D q) (ds q) (V q) else tm t0 ds V D q

section
variable {t0 : List Value} {ds : Nat → Option Tmp} {V : Nat → Value}

theorem putL_len (t : List Value) (dst : Option Tmp) (v : Value) : (putL t dst v).length = t.length := by
  cases dst <;> simp [putL]

theorem tm_len (D : Nat → Bool) : ∀ m, (tm t0 ds V D m).length = t0.length
  | 0 => rfl
  | m + 1 => by
    simp only [tm]; split
    · rw [putL_len, tm_len D m]
    · exact tm_len D m

theorem tm_agree (t : Tmp) {D D' : Nat → Bool} : ∀ m, (∀ q, q < m → ds q = some t → D q = D' q) → (tm t0 ds V D m)[t]? = (tm t0 ds V D' m)[t]?
  | 0, _ => rfl
  | m + 1, h => by
    have ih := tm_agree t m (fun q hq => h q (by omega))
    have other : ∀ (l : List Value), ds m ≠ some t → (putL l (ds m) (V m))[t]? = l[t]? := by
      intro l hne
      unfold putL
      split
      · rename_i d hd; exact List.getElem?_set_ne (fun hh => hne (by rw [hd, hh]))
      · rfl
    simp only [tm]
    by_cases hd : ds m = some t
    · rw [h m (by omega) hd]
      split
      · simp only [hd, putL]
        rw [List.getElem?_set, List.getElem?_set, tm_len, tm_len]
        simp only [if_true]
      · exact ih
    · have e1 : ∀ (D : Nat → Bool), (if D m = true then putL (tm t0 ds V D m) (ds m) (V m) else tm t0 ds V D m)[t]? = (tm t0 ds V D m)[t]? := by
        intro D; split
        · exact other _ hd
        · rfl
      rw [e1, e1]; exact ih

theorem tm_congr {D D' : Nat → Bool} : ∀ m, (∀ q, q < m → D q = D' q) → tm t0 ds V D m = tm t0 ds V D' m
  | 0, _ => rfl
  | m + 1, h => by simp only [tm]; rw [h m (by omega), tm_congr m (fun q hq => h q (by omega))]

theorem tm_add {D D' : Nat → Bool} {q0 : Nat} (h0 : D q0 = false) (h1 : D' q0 = true) (hs : ∀ q, q ≠ q0 → D' q = D q) : ∀ m, q0 < m →
    (∀ q d, q0 < q → q < m → ds q0 = some d → ds q = some d → D q = false) → tm t0 ds V D' m = putL (tm t0 ds V D m) (ds q0) (V q0)
  | 0, h, _ => absurd h (by omega)
  | m + 1, h, hno => by
    by_cases hm : q0 = m
    · subst hm
      simp only [tm, h0, h1, if_true, Bool.false_eq_true, if_false]
      rw [tm_congr q0 (fun q hq => hs q (by omega))]
    · have ih := tm_add (D := D) (D' := D') h0 h1 hs m (by omega) (fun q d a b => hno q d a (by omega))
      simp only [tm, hs m (fun hh => hm hh.symm)]
      split
      · rename_i hD
        rw [ih]
        cases hq : ds q0 with
        | none => rfl
        | some d =>
          cases hq2 : ds m with
          | none => rfl
          | some e =>
            have hne : d ≠ e := by
              intro hh; subst hh
              have := hno m d (by omega) (by omega) hq hq2
              rw [this] at hD; cases hD
            simp only [putL]
            exact List.set_comm _ _ hne
      · exact ih

theorem tm_stop (q : Nat) : ∀ m, q ≤ m → tm t0 ds V (fun p => decide (p < q)) m = tm t0 ds V (fun _ => true) q
  | 0, h => by obtain rfl : q = 0 := by omega
               rfl
  | m + 1, h => by
    by_cases hq : q = m + 1
    · subst hq; exact tm_congr _ (fun p hp => by simp; omega)
    · simp only [tm]
      have : decide (m < q) = false := by simp; omega
      simp only [this, Bool.false_eq_true, if_false]
      exact tm_stop q m (by omega)
end

theorem cnt_lt {p p' : Nat → Bool} (hs : ∀ x, p' x = true → p x = true) : ∀ (l : List Nat) (x : Nat), x ∈ l → p x = true → p' x = false → (l.filter p').length < (l.filter p).length
  | [], x, h, _, _ => by simp at h
  | y :: l, x, h, h1, h2 => by
    have le : ∀ l : List Nat, (l.filter p').length ≤ (l.filter p).length := by
      intro l; induction l with
      | nil => simp
      | cons z l ih =>
        cases hz : p' z with
        | true => simp only [List.filter_cons, hz, hs z hz, if_true, List.length_cons]; omega
        | false => simp only [List.filter_cons, hz, if_false, Bool.false_eq_true]; split <;> (try simp only [List.length_cons]) <;> omega
    simp only [List.mem_cons] at h
    by_cases hy : x = y
    · subst hy
      simp only [List.filter_cons, h1, h2, if_true, Bool.false_eq_true, if_false, List.length_cons]
      have := le l; omega
    · have ih := cnt_lt hs l x (h.resolve_left hy) h1 h2
      cases hz : p' y with
      | true => simp only [List.filter_cons, hz, hs y hz, if_true, List.length_cons]; omega
      | false => simp only [List.filter_cons, hz, if_false, Bool.false_eq_true]; split <;> (try simp only [List.length_cons]) <;> omega

section
variable {P : Program} {ih : Task → AH → Option Out} {ops : Array Oper} {ord : List Nat}

structure Sta (P : Program) (ops : Array Oper) (ord : List Nat) : Prop where
  len : ord.length = ops.size
  cov : ∀ i, i < ops.size → i ∈ ord
  op : ∀ q, q < ops.size → ∃ i o, ord[q]? = some i ∧ ops[i]? = some o ∧ (∀ c, o.op ≠ .defer c) ∧ ∀ e ∈ o.after, Region.binds .any e = true → ∃ p, p < q ∧ ord[p]? = some e.on
  pair : ∀ p q i j oi oj, p < q → q < ops.size → ord[p]? = some i → ord[q]? = some j → ops[i]? = some oi → ops[j]? = some oj →
    i ≠ j ∧ (tied P ops oi oj = true → bef ops ops.size i j = true) ∧ (heavyOp P oi.op = true → heavyOp P oj.op = false → bef ops ops.size i j = true)

theorem sta_of (h : staticOk P ops ord = true) : Sta P ops ord := by
  unfold staticOk at h
  simp only [Bool.and_eq_true, Nat.beq_eq, List.all_eq_true, List.mem_range] at h
  obtain ⟨⟨h1, h2⟩, h3⟩ := h
  have h3' : ∀ q, q < ops.size → ∃ j oj, ord[q]? = some j ∧ ops[j]? = some oj ∧ (∀ c, oj.op ≠ .defer c) ∧ (∀ e ∈ oj.after, Region.binds .any e = true → ∃ p, p < q ∧ ord[p]? = some e.on) ∧
      ∀ p, p < q → ∃ i, ord[p]? = some i ∧ pairOk P ops i j = true := by
    intro q hq
    have := h3 q hq
    split at this
    · cases this
    · rename_i j hj
      split at this
      · cases this
      · rename_i oj hoj
        simp only [Bool.and_eq_true, List.all_eq_true, List.mem_range] at this
        obtain ⟨⟨g1, g2⟩, g3⟩ := this
        refine ⟨j, oj, hj, hoj, ?_, ?_, ?_⟩
        · intro c hc; rw [hc] at g1; cases g1
        · intro e he hb
          have := g2 e (by simpa using he)
          simp only [Bool.or_eq_true, Bool.not_eq_true', hb, reduceCtorEq, false_or] at this
          have hm : e.on ∈ ord.take q := by simpa using this
          obtain ⟨p, hp⟩ := List.mem_iff_getElem?.1 hm
          rw [List.getElem?_take] at hp
          split at hp
          · exact ⟨p, by assumption, hp⟩
          · cases hp
        · intro p hp
          have := g3 p hp
          split at this
          · rename_i i hi; exact ⟨i, hi, this⟩
          · cases this
  refine ⟨h1, fun i hi => by have := h2 i hi; simpa using this, fun q hq => ?_, ?_⟩
  · obtain ⟨j, oj, g1, g2, g3, g4, _⟩ := h3' q hq
    exact ⟨j, oj, g1, g2, g3, g4⟩
  · intro p q i j oi oj hpq hq hi hj hoi hoj
    obtain ⟨j', oj', g1, g2, _, _, g5⟩ := h3' q hq
    obtain ⟨i', k1, k2⟩ := g5 p hpq
    rw [hj] at g1; cases g1
    rw [hi] at k1; cases k1
    unfold pairOk at k2
    simp only [hoi, hoj, Bool.and_eq_true, Bool.not_eq_true'] at k2
    obtain ⟨⟨m1, m2⟩, m3⟩ := k2
    refine ⟨?_, ?_, ?_⟩
    · intro hh; subst hh; simp at m1
    · intro ht; rw [ht] at m2; simpa using m2
    · intro ha hb; rw [ha, hb] at m3; simpa using m3

theorem trace_spec : ∀ (is : List Nat) {a : AF} {h : AH} {l : List (AF × AH)}, traceE P ih ops is a h = some l → l.length = is.length + 1 ∧ l[0]? = some (a, h) ∧
    ∀ q i, is[q]? = some i → ∃ s s', l[q]? = some s ∧ l[q + 1]? = some s' ∧ step1 P ih ops i s.1 s.2 = some s'
  | [], a, h, l, e => by
    cases e; exact ⟨rfl, rfl, fun q i hq => by simp at hq⟩
  | i :: is, a, h, l, e => by
    simp only [traceE] at e
    split at e
    · rename_i a' h' hs
      simp only [Option.map_eq_some_iff] at e
      obtain ⟨l', hl, rfl⟩ := e
      obtain ⟨g1, g2, g3⟩ := trace_spec is hl
      refine ⟨by simp [g1], rfl, fun q j hq => ?_⟩
      cases q with
      | zero =>
        simp at hq; subst hq
        exact ⟨(a, h), (a', h'), rfl, by simpa using g2, hs⟩
      | succ q =>
        simp at hq
        obtain ⟨s, s', k1, k2, k3⟩ := g3 q j hq
        exact ⟨s, s', by simpa using k1, by simpa using k2, k3⟩
    · cases e

/-- what lies ahead of what is listed is listed -/
theorem bef_listed {listed : Array Bool} (cl : ∀ j o, ops[j]? = some o → listed.getD j false = true → ∀ e ∈ o.after, Region.binds .any e = true → listed.getD e.on false = true) :
    ∀ (f k i : Nat) (o : Oper), ops[i]? = some o → (∀ e ∈ o.after, Region.binds .any e = true → listed.getD e.on false = true) → bef ops f k i = true → listed.getD k false = true
  | 0, k, i, o, _, _, h => by simp [bef] at h
  | f + 1, k, i, o, ho, he, h => by
    simp only [bef, ho, List.any_eq_true] at h
    obtain ⟨e, hm, hb⟩ := h
    simp only [Bool.and_eq_true, Bool.or_eq_true, Nat.beq_eq] at hb
    obtain ⟨hb1, hb2⟩ := hb
    have hme : e ∈ o.after := by simpa using hm
    rcases hb2 with rfl | hb2
    · exact he e hme hb1
    · have hl := he e hme hb1
      cases f with
      | zero => simp [bef] at hb2
      | succ f =>
        cases hoe : ops[e.on]? with
        | none => simp [bef, hoe] at hb2
        | some oe => exact bef_listed cl (f + 1) k e.on oe hoe (cl e.on oe hoe hl) hb2

end
end Go.Proofs.YtmcmaklilfgdiaaGreat.Ev
