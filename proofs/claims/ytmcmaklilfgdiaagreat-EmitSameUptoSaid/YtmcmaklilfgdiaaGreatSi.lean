/- Symbolic runs: the run itself; what it says of a region that draws its order. -/
import Derived.Test.YtmcmaklilfgdiaaGreatSh
namespace Go.Proofs.YtmcmaklilfgdiaaGreat.Ev
open Go Go.RowKit

/-- may the places of the order be drawn otherwise? -/
def dynS (P : Program) (ops : Array Oper) (ord : List Nat) (es : List Ent) : Bool :=
  (List.range ops.size).all fun q => match es[q]? with
    | none => false
    | some x => x.rd.all (fun id => Nat.blt id x.h.n) && (List.range ops.size).all fun j => Nat.ble j q || (match es[j]? with
      | none => false
      | some y => y.wr.isEmpty || !openE P ops ord q (j + 1) || (x.rd.all (fun id => !y.wr.contains id) && !y.wr.contains x.h.n))

/-- a test's slot, now that it is decided -/
noncomputable def setB (a : AF) (d : Tmp) (b : Bool) : AF := { a with tmps := setL a.tmps (.bool b) d }

def wantS (ops : Array Oper) (o : Oper) (a : AF) (Kt Kf : AF → Prop) : Prop :=
  match o.guard with
  | none => Kt a
  | some (j, want) => match (ops[j]?).bind (·.dst) with
    | some d => match idxL a.tmps d with
      | some (.bool b) => bif b then (bif want then Kt (setB a d true) else Kf (setB a d true)) else (bif want then Kf (setB a d false) else Kt (setB a d false))
      | _ => Kf a
    | none => Kf a

def retS (P : Program) (m : Nat) (a : AF) (h : AH) (Q : Value → List ABlk → Prop) : Prop :=
  match a.defs with
  | [] => match P.funcs[a.fn]? with
    | some fn => match resE P a.tmps h fn.results.toList with
      | some vs => Q (snapV h (outV vs)) (firstB h m)
      | none => False
    | none => False
  | _ => False

def loopS (T : Tab) (P : Program) (gs : List ABlk) (body : Code) (k : List It) (a : AF) (h : AH) (Q : Value → List ABlk → Prop) : Prop :=
  match canonS T.m (T.live a.fn (headId body)) (ownify (T.own a.fn (headId body)) a h).1 (ownify (T.own a.fn (headId body)) a h).2 with
  | some (a', h') => LoopG P gs T.m (T.live a.fn (headId body)) (.code body :: .lp body :: k) a' h' Q
  | none => False

def forceL : List Nat → (List Nat → Prop) → Prop
  | [], k => k []
  | x :: l, k => forceL l fun r => k (x :: r)

def SC (T : Tab) (P : Program) (gs : List ABlk) (Q : Value → List ABlk → Prop) : Nat → List It → AF → AH → Prop
  | 0 => fun _ _ _ => False
  | n + 1 => fun its a h =>
    match its with
    | [] => retS P T.m a h Q
    | .code c :: k =>
      match c with
      | .skip | .label _ => SC T P gs Q n k a h
      | .region _ ops draw => bif draw then forceL (orderE P ops ops.size []) fun ord => bif staticOk P ops ord then SC T P gs Q n (.drw ops ord ord [] :: k) a h else False
        else SC T P gs Q n (.reg ops (List.range ops.size) :: k) a h
      | .seq x y => SC T P gs Q n (.code x :: .code y :: k) a h
      | .cond (.tmp t) x y => match idxL a.tmps t with
        | some (.bool b) => bif b then SC T P gs Q n (.code x :: k) (setB a t true) h else SC T P gs Q n (.code y :: k) (setB a t false) h
        | _ => False
      | .cond (.const (.bool b)) x y => bif b then SC T P gs Q n (.code x :: k) a h else SC T P gs Q n (.code y :: k) a h
      | .block id b => SC T P gs Q n (.code b :: .blk id :: k) a h
      | .loop b => loopS T P gs b k a h Q
      | .exit id => match exitS id k with
        | some k' => SC T P gs Q n k' a h
        | none => False
      | .ret => retS P T.m a h Q
      | _ => False
    | .blk _ :: k => SC T P gs Q n k a h
    | .lp b :: k => loopS T P gs b k a h Q
    | .reg _ [] :: k => SC T P gs Q n k a h
    | .reg ops (i :: rest) :: k => match ops[i]? with
      | some o => wantS ops o a (fun a => opS T P gs o a h fun v h' _ _ => SC T P gs Q n (.reg ops rest :: k) (a.put o.dst v) h') (fun a => SC T P gs Q n (.reg ops rest :: k) (a.put o.dst undef) h)
      | none => False
    | .drw ops ord [] es :: k => bif dynS P ops ord es.reverse then SC T P gs Q n k a h else False
    | .drw ops ord (i :: rest) es :: k => match ops[i]? with
      | some o => wantS ops o a (fun a => opS T P gs o a h fun v h' rd wr => SC T P gs Q n (.drw ops ord rest (⟨a, h, rd, wr⟩ :: es) :: k) (a.put o.dst v) h') (fun a => SC T P gs Q n (.drw ops ord rest (⟨a, h, [], []⟩ :: es) :: k) (a.put o.dst undef) h)
      | none => False

section
variable {T : Tab} {P : Program} {gs : List ABlk} {Q : Value → List ABlk → Prop} {w0 : Bs}

/-- a region so far -/
inductive Trc (P : Program) (w0 : Bs) (ops : Array Oper) (a0 : AF) (h0 : AH) : List Nat → List Ent → AF → AH → Prop
  | nil : Trc P w0 ops a0 h0 [] [] a0 h0
  | step {ps : List Nat} {es : List Ent} {a : AF} {h : AH} {i : Nat} {o : Oper} {v : Value} {h' : AH} {rd wr : List Nat} (t : Trc P w0 ops a0 h0 ps es a h) (ho : ops[i]? = some o)
      (hw : (wantedE ops o a.tmps = true ∧ SOp P w0 o a h v h' rd wr) ∨ (wantedE ops o a.tmps = false ∧ v = undef ∧ h' = h ∧ rd = [] ∧ wr = [])) :
      Trc P w0 ops a0 h0 (i :: ps) (⟨a, h, rd, wr⟩ :: es) (a.put o.dst v) h'

theorem setB_self {a : AF} {d : Tmp} {b : Bool} (h : idxL a.tmps d = some (.bool b)) : setB a d b = a := by
  unfold setB
  rw [idxL_eq] at h
  rw [setL_eq]
  have : a.tmps.set d (.bool b) = a.tmps := by
    apply List.ext_getElem?
    intro i
    rw [List.getElem?_set]
    by_cases hi : d = i
    · subst hi
      have hlt := (List.getElem?_eq_some_iff.1 h).1
      rw [if_pos rfl, if_pos hlt, h]
    · rw [if_neg hi]
  rw [this]

theorem wantS_ok {ops : Array Oper} {o : Oper} {a : AF} {Kt Kf : AF → Prop} (e : wantS ops o a Kt Kf) : (wantedE ops o a.tmps = true ∧ Kt a) ∨ (wantedE ops o a.tmps = false ∧ Kf a) := by
  unfold wantS at e
  unfold wantedE yieldedE
  split at e
  · rename_i hg; rw [hg]; exact .inl ⟨rfl, e⟩
  · rename_i j want hg
    rw [hg]
    simp only
    split at e
    · rename_i d hd
      rw [hd]
      simp only
      split at e
      · rename_i b hb
        rw [hb]
        simp only
        cases b <;> cases want <;> simp only [cond_true, cond_false, setB_self hb] at e <;> first | exact .inl ⟨rfl, e⟩ | exact .inr ⟨rfl, e⟩
      · rename_i hb
        refine .inr ⟨?_, e⟩
        split
        · rename_i hh
          split at hh
          · rename_i b' hb'; exact absurd hb' (hb _)
          · cases hh
        · rfl
    · rename_i hd
      rw [hd]
      exact .inr ⟨rfl, e⟩

theorem forceL_eq : ∀ (l : List Nat) (k : List Nat → Prop), forceL l k = k l
  | [], _ => rfl
  | x :: l, k => by rw [forceL, forceL_eq l]

theorem Trc.len {ops : Array Oper} {a0 : AF} {h0 : AH} : ∀ {ps : List Nat} {es : List Ent} {a : AF} {h : AH}, Trc P w0 ops a0 h0 ps es a h → ps.length = es.length
  | _, _, _, _, .nil => rfl
  | _, _, _, _, .step t _ _ => by simp [Trc.len t]

/-- the states of a trace -/
theorem Trc.states {ops : Array Oper} {a0 : AF} {h0 : AH} : ∀ {ps : List Nat} {es : List Ent} {a : AF} {h : AH}, Trc P w0 ops a0 h0 ps es a h →
    ∃ (A : Nat → AF) (H : Nat → AH), A 0 = a0 ∧ H 0 = h0 ∧ A es.length = a ∧ H es.length = h ∧
      ∀ (q i : Nat) (x : Ent), ps.reverse[q]? = some i → es.reverse[q]? = some x → x.a = A q ∧ x.h = H q ∧ ∃ (o : Oper) (v : Value), ops[i]? = some o ∧ A (q + 1) = (A q).put o.dst v ∧
        ((wantedE ops o (A q).tmps = true ∧ SOp P w0 o (A q) (H q) v (H (q + 1)) x.rd x.wr) ∨ (wantedE ops o (A q).tmps = false ∧ v = undef ∧ H (q + 1) = H q ∧ x.rd = [] ∧ x.wr = []))
  | _, _, _, _, .nil => ⟨fun _ => a0, fun _ => h0, rfl, rfl, rfl, rfl, fun q i x hq => by simp at hq⟩
  | _, _, _, _, .step (ps := ps) (es := es) (a := a) (h := h) (i := i) (o := o) (v := v) (h' := h') (rd := rd) (wr := wr) t ho hw => by
    obtain ⟨A, H, g1, g2, g3, g4, g5⟩ := Trc.states t
    have hlen := t.len
    let A' : Nat → AF := fun q => if q = es.length + 1 then a.put o.dst v else A q
    let H' : Nat → AH := fun q => if q = es.length + 1 then h' else H q
    have hA : ∀ q, q ≤ es.length → A' q = A q := fun q hq => if_neg (by omega)
    have hH : ∀ q, q ≤ es.length → H' q = H q := fun q hq => if_neg (by omega)
    refine ⟨A', H', by rw [hA 0 (by omega)]; exact g1, by rw [hH 0 (by omega)]; exact g2, if_pos (by simp), if_pos (by simp), fun q j x hq hx => ?_⟩
    rw [List.reverse_cons] at hq hx
    by_cases hlt : q < es.length
    · rw [List.getElem?_append_left (by simpa [hlen] using hlt)] at hq
      rw [List.getElem?_append_left (by simpa using hlt)] at hx
      rw [hA q (by omega), hH q (by omega), hA (q + 1) (by omega), hH (q + 1) (by omega)]
      exact g5 q j x hq hx
    · have hqe : q = es.length := by
        have := (List.getElem?_eq_some_iff.1 hx).1
        simp at this
        omega
      subst hqe
      rw [List.getElem?_append_right (by simp [hlen])] at hq
      rw [List.getElem?_append_right (by simp)] at hx
      simp [hlen] at hq hx
      subst hq; subst hx
      rw [hA _ (Nat.le_refl _), hH _ (Nat.le_refl _), g3, g4]
      refine ⟨rfl, rfl, o, v, ho, ?_, ?_⟩
      · show A' (es.length + 1) = _
        exact if_pos rfl
      · have : H' (es.length + 1) = h' := if_pos rfl
        rw [this]
        exact hw

theorem openE_mono {ops : Array Oper} {ord : List Nat} {q j j' : Nat} (h : openE P ops ord q j' = true) (hj : j ≤ j') : openE P ops ord q j = true := by
  unfold openE at h ⊢
  rw [List.all_eq_true] at h ⊢
  intro k hk
  exact h k (by rw [List.mem_range] at hk ⊢; omega)

/-- what a trace says -/
theorem Trc.toTq {ops : Array Oper} {a0 : AF} {h0 : AH} {ord : List Nat} {es : List Ent} {a : AF} {h : AH} (t : Trc P w0 ops a0 h0 ord.reverse es a h) (hs : staticOk P ops ord = true) (hd : dynS P ops ord es.reverse = true) (hl : h0.bs.length = h0.n) :
    ∃ (A : Nat → AF) (H : Nat → AH) (V : Nat → Value), Tq P w0 ops ord A H V ∧ A 0 = a0 ∧ H 0 = h0 ∧ A ops.size = a ∧ H ops.size = h := by
  have S := sta_of hs
  obtain ⟨A, H, g1, g2, g3, g4, g5⟩ := t.states
  have hlen : es.length = ops.size := by rw [← t.len, List.length_reverse, S.len]
  rw [hlen] at g3 g4
  have hx : ∀ q, q < ops.size → ∃ x, es.reverse[q]? = some x := fun q hq => ⟨es.reverse[q]'(by simpa [hlen] using hq), List.getElem?_eq_getElem _⟩
  rw [List.reverse_reverse] at g5
  -- each place
  have place : ∀ q, ∃ (v : Value) (x : Ent), q < ops.size → es.reverse[q]? = some x ∧ x.h = H q ∧ ∀ i o, ord[q]? = some i → ops[i]? = some o → A (q + 1) = (A q).put o.dst v ∧
      ((wantedE ops o (A q).tmps = true ∧ SOp P w0 o (A q) (H q) v (H (q + 1)) x.rd x.wr) ∨ (wantedE ops o (A q).tmps = false ∧ v = undef ∧ H (q + 1) = H q ∧ x.rd = [] ∧ x.wr = [])) := by
    intro q
    by_cases hq : q < ops.size
    · obtain ⟨x, hxq⟩ := hx q hq
      obtain ⟨i, o, k1, k2, _⟩ := S.op q hq
      obtain ⟨m1, m2, o', v, m3, m4, m5⟩ := g5 q i x k1 hxq
      rw [k2] at m3; cases m3
      refine ⟨v, x, fun _ => ⟨hxq, m2, fun i' o' hi ho => ?_⟩⟩
      rw [k1] at hi; cases hi
      rw [k2] at ho; cases ho
      exact ⟨m4, m5⟩
    · exact ⟨undef, ⟨a0, h0, [], []⟩, fun hh => absurd hh hq⟩
  obtain ⟨V, hV⟩ := Classical.axiomOfChoice place
  obtain ⟨X, hX⟩ := Classical.axiomOfChoice hV
  have hgrow : ∀ q, q < ops.size → Grow (H q) (H (q + 1)) (X q).wr := by
    intro q hq
    obtain ⟨i, o, k1, k2, _⟩ := S.op q hq
    obtain ⟨_, _, h3⟩ := hX q hq
    rcases (h3 i o k1 k2).2 with ⟨_, hh⟩ | ⟨_, _, hh, _⟩
    · exact hh.grow
    · rw [hh]; exact Grow.refl _ _
  have hlens : ∀ q, q ≤ ops.size → (H q).bs.length = (H q).n := by
    intro q
    induction q with
    | zero => intro _; rw [g2]; exact hl
    | succ q ih => intro hq; exact (hgrow q (by omega) (ih (by omega))).2.1
  have hmono : ∀ d q, q + d ≤ ops.size → (H q).n ≤ (H (q + d)).n := by
    intro d
    induction d with
    | zero => intro q _; exact Nat.le_refl _
    | succ d ih =>
      intro q hq
      have h1 := ih q (by omega)
      have h2 := (hgrow (q + d) (by omega) (hlens _ (by omega))).1
      rw [show q + (d + 1) = q + d + 1 from rfl]
      omega
  -- a block that nothing turns
  have stays : ∀ id d q, q + d ≤ ops.size → id < (H q).n → (∀ k, q ≤ k → k < q + d → id ∉ (X k).wr) → (H (q + d)).get id = (H q).get id := by
    intro id d
    induction d with
    | zero => intro q _ _ _; rfl
    | succ d ih =>
      intro q hq hid hk
      have h1 := ih q (by omega) hid (fun k a b => hk k a (by omega))
      have h2 := (hgrow (q + d) (by omega) (hlens _ (by omega))).2.2 id (by have := hmono d q (by omega); omega) (hk (q + d) (by omega) (by omega))
      rw [show q + (d + 1) = q + d + 1 from rfl, h2, h1]
  have hdyn : ∀ q, q < ops.size → (∀ id ∈ (X q).rd, id < (H q).n) ∧ ∀ j, q < j → j < ops.size → openE P ops ord q (j + 1) = true → (∀ id ∈ (X q).rd, id ∉ (X j).wr) ∧ (H q).n ∉ (X j).wr := by
    intro q hq
    obtain ⟨h1, h2, _⟩ := hX q hq
    unfold dynS at hd
    have := List.all_eq_true.1 hd q (List.mem_range.2 hq)
    rw [h1] at this
    simp only [Bool.and_eq_true, List.all_eq_true, List.mem_range, Nat.blt_eq, h2] at this
    refine ⟨this.1, fun j hj hjn ho => ?_⟩
    obtain ⟨k1, k2, _⟩ := hX j hjn
    have h3 := this.2 j hjn
    rw [k1] at h3
    simp only [Bool.or_eq_true, Nat.ble_eq, Bool.not_eq_true', Bool.and_eq_true, List.all_eq_true] at h3
    rcases h3 with h3 | h3
    · omega
    · rcases h3 with (h3 | h3) | h3
      · have : (X j).wr = [] := by simpa using h3
        rw [this]; exact ⟨fun _ _ => by simp, by simp⟩
      · rw [ho] at h3; cases h3
      · refine ⟨fun id hid hm => ?_, fun hm => ?_⟩
        · have := h3.1 id hid
          simp [hm] at this
        · have := h3.2
          simp [hm] at this
  have wanted : ∀ q i o, q < ops.size → ord[q]? = some i → ops[i]? = some o → wantedE ops o (A q).tmps = true → SOp P w0 o (A q) (H q) (V q) (H (q + 1)) (X q).rd (X q).wr := by
    intro q i o hq hi ho hw
    obtain ⟨_, _, h3⟩ := hX q hq
    rcases (h3 i o hi ho).2 with ⟨_, hh⟩ | ⟨hh, _⟩
    · exact hh
    · rw [hw] at hh; cases hh
  refine ⟨A, H, V, ?_, g1, g2, g3, g4⟩
  exact {
    sta := S
    put := fun q i o hq hi ho => ((hX q hq).2.2 i o hi ho).1
    no := fun q i o hq hi ho hw => by
      obtain ⟨_, _, h3⟩ := hX q hq
      rcases (h3 i o hi ho).2 with ⟨hh, _⟩ | ⟨_, hh1, hh2, _⟩
      · rw [hw] at hh; cases hh
      · exact ⟨hh1, hh2⟩
    yes := fun q i o hq hi ho hw a2 hr hx => (wanted q i o hq hi ho hw).ok a2 hr hx
    light := fun q i o hq hi ho hw hlo => by
      obtain ⟨k1, k2⟩ := (wanted q i o hq hi ho hw).light hlo
      refine ⟨k1, fun j hj hjn hopen a2 hr hx => k2 (H j) (fun id hid => ?_) a2 hr hx⟩
      have hlt := (hdyn q hq).1 id hid
      have h1 := stays id (j - (q + 1)) (q + 1) (by omega) (by rw [k1]; exact hlt) (fun k a b => by
        exact ((hdyn q hq).2 k (by omega) (by omega) (openE_mono hopen (by omega))).1 id hid)
      rw [show q + 1 + (j - (q + 1)) = j by omega] at h1
      rw [h1, k1]
    fill := fun q i o hq hi ho hw hf => by
      obtain ⟨v2, vs, esz, k1, k2⟩ := (wanted q i o hq hi ho hw).fill hf
      have hn : (H (q + 1)).n = (H q).n + 1 := by rw [k1]; rfl
      refine ⟨⟨vs, esz, k1⟩, by have := hmono q 0 (by omega); rw [Nat.zero_add] at this; exact this, fun j hj hjn => ⟨?_, fun hopen => ?_⟩⟩
      · have := hmono (j - (q + 1)) (q + 1) (by omega)
        rw [show q + 1 + (j - (q + 1)) = j by omega] at this
        omega
      · have hg : (H (q + 1)).get (H q).n = some (.cells vs esz) := by rw [k1, AH.get_push _ (hlens q (by omega)), if_pos rfl]
        have h1 := stays (H q).n (j - (q + 1)) (q + 1) (by omega) (by omega) (fun k a b => by
          exact ((hdyn q hq).2 k (by omega) (by omega) (openE_mono hopen (by omega))).2)
        rw [show q + 1 + (j - (q + 1)) = j by omega] at h1
        exact ⟨vs, esz, hg, by rw [h1]; exact hg⟩
    fillv := fun q i o hq hi ho hw hf a2 hr hx => by
      obtain ⟨v2, vs, esz, k1, k2⟩ := (wanted q i o hq hi ho hw).fill hf
      obtain ⟨m1, m2⟩ := k2 a2 hr hx
      exact ⟨v2, vs, esz, by rw [m1, k1], m2, k1⟩ }

end
end Go.Proofs.YtmcmaklilfgdiaaGreat.Ev
