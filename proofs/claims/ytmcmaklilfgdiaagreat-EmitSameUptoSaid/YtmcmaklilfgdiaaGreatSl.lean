/- From what is read of an argument to a value without addresses. -/
import Derived.Test.YtmcmaklilfgdiaaGreatSk
import Derived.ChangeArms
import Derived.Deep.Slices
namespace Go.Proofs.YtmcmaklilfgdiaaGreat.Ev
open Go Go.RowKit

/-- the cells of a world -/
def kapW (w : World) : Nat → Nat → Option Value := fun b i => w.cell? ⟨b, i, none⟩

/-- how much data there is -/
structure Meas {H : Type} (B : DataW H → Nat) : Prop where
  slice : ∀ es sp, (es.map B).sum + 1 ≤ B (.slice es sp)
  agg : ∀ ps, (ps.map B).sum + 1 ≤ B (.agg ps)
  str : ∀ b, b.length ≤ B (.lit (.string b))
  pos : ∀ d, 1 ≤ B d

/-- each member is fit, and all together are not too much -/
def OkL {α : Type} (ok : α → Nat → Prop) : List α → Nat → Prop
  | [], _ => True
  | x :: l, n => ∃ a b, a + b ≤ n ∧ 1 ≤ a ∧ ok x a ∧ OkL ok l b
theorem OkL.len {α : Type} {ok : α → Nat → Prop} : ∀ {l : List α} {n : Nat}, OkL ok l n → l.length ≤ n
  | [], _, _ => Nat.zero_le _
  | x :: l, n, ⟨a, b, h1, h2, _, h4⟩ => by
    have := OkL.len h4
    rw [List.length_cons]; omega
theorem OkL.mem {α : Type} {ok : α → Nat → Prop} : ∀ {l : List α} {n : Nat}, OkL ok l n → ∀ x ∈ l, ∃ a, a ≤ n ∧ ok x a
  | [], _, _, x, hx => by cases hx
  | y :: l, n, ⟨a, b, h1, _, h3, h4⟩, x, hx => by
    rcases List.mem_cons.1 hx with rfl | hx
    · exact ⟨a, by omega, h3⟩
    · obtain ⟨c, h5, h6⟩ := OkL.mem h4 x hx
      exact ⟨c, by omega, h6⟩

theorem cell_add {w : World} {a : Addr} {k : Nat} {v : Value} (h : w.cell? (a.add k) = some v) : kapW w a.block (a.off + k) = some v ∧ (k = 0 → a.spot = none) := by
  obtain ⟨b, o, s⟩ := a
  unfold Addr.add at h
  by_cases hk : k = 0
  · subst hk
    simp only [if_true] at h
    have hs : s = none := by
      unfold World.cell? at h
      split at h
      · simp only at h
        split at h
        · cases h
        · rename_i hh; simpa using hh
      · cases h
    subst hs
    exact ⟨h, fun _ => rfl⟩
  · rw [if_neg hk] at h
    exact ⟨h, fun hh => absurd hh hk⟩

section
variable {H : Type} (enc : TypeId × Value → H) (P : Program) (w : World) (base : Nat) (sp : Nat → Bool) (hd : Bool) (B : DataW H → Nat)

/-- cells read as a type's: what value without addresses they are -/
def Rd (F : Nat) (t : TypeId) {α : Type} (cells : α → List Value) (ok : α → Nat → Prop) : Prop :=
  ∀ fuel, fuel ≤ F → ∀ cs x, DataW.trod enc P w base sp hd fuel t cs = some x → ∃ a, CRs (kapW w) (cells a) cs ∧ ok a (B x.1)
/-- fields from one on -/
def RdFs (F T o : Nat) (fs : List Field) {α : Type} (cells : α → List Value) (ok : α → Nat → Prop) : Prop :=
  ∀ n, n ≤ F → ∀ (cs : List Value) (xs : List (DataW H × List MemPlace)), cs.length = T → xs.length = fs.length →
    (∀ (i : Nat) (f : Field), fs[i]? = some f → DataW.trod enc P w base sp hd n f.type ((cs.drop f.offset).take (P.cellsOf f.type)) = xs[i]?) → ∃ a, CRs (kapW w) (cells a) (cs.drop o) ∧ ok a ((xs.map fun x => B x.1).sum)

variable {enc P w base sp hd B} {F : Nat} {t : TypeId} {α β : Type} {cells : α → List Value} {ok : α → Nat → Prop}

theorem Rd.conv (r : Rd enc P w base sp hd B F t cells ok) (g : α → β) {cells' : β → List Value} {ok' : β → Nat → Prop} (h : ∀ x n, ok x n → cells' (g x) = cells x ∧ ok' (g x) n) : Rd enc P w base sp hd B F t cells' ok' := by
  intro fuel hf cs x hx
  obtain ⟨a, h1, h2⟩ := r fuel hf cs x hx
  obtain ⟨h3, h4⟩ := h a _ h2
  exact ⟨g a, by rw [h3]; exact h1, h4⟩
theorem Rd.int {k : IntKind} (ht : P.underlying t = some (.int k)) : Rd enc P w base sp hd B F t (fun n : Int => [.int k n]) (fun n _ => (Lit.int k n).wf = true) := by
  intro fuel _ cs x hx
  obtain ⟨n, rfl, rfl, h⟩ := DataW.trod_int ht hx
  exact ⟨n, .cons (.int k n) .nil, h⟩
theorem Rd.bool (ht : P.underlying t = some .bool) : Rd enc P w base sp hd B F t (fun b : Bool => [.bool b]) (fun _ _ => True) := by
  intro fuel _ cs x hx
  obtain ⟨b, rfl, rfl⟩ := DataW.trod_bool ht hx
  exact ⟨b, .cons (.bool b) .nil, trivial⟩
theorem Rd.string (ht : P.underlying t = some .string) : Rd enc P w base sp hd B F t (fun s : ByteArray => [.string s]) (fun _ _ => True) := by
  intro fuel _ cs x hx
  obtain ⟨s, rfl, rfl, _⟩ := DataW.trod_string ht hx
  exact ⟨s, .cons (.string s) .nil, trivial⟩

theorem rows_build (m : Meas B) {e : TypeId} {n : Nat} {a : Addr} (r : Rd enc P w base sp hd B F e cells ok) (hn : n ≤ F) (hc : 0 < P.cellsOf e) : ∀ (elems : List (DataW H × List MemPlace)) (o : Nat),
    (∀ i, i < elems.length → (w.cells? base (a.add ((o + i) * P.cellsOf e)) (P.cellsOf e)).bind (DataW.trod enc P w base sp hd n e) = elems[i]?) →
    ∃ (l : List α) (es' : List Value), l.length = elems.length ∧ CRs (kapW w) (l.flatMap cells) es' ∧ (∀ (j : Nat) (v : Value), es'[j]? = some v → kapW w a.block (a.off + o * P.cellsOf e + j) = some v) ∧ OkL ok l ((elems.map fun x => B x.1).sum) ∧ (o = 0 → elems ≠ [] → a.spot = none)
  | [], o, _ => ⟨[], [], rfl, .nil, by intro j v h; simp at h, trivial, fun _ h => absurd rfl h⟩
  | x :: elems, o, h => by
    obtain ⟨l, es', h1, h2, h3, h4, _⟩ := rows_build m r hn hc elems (o + 1) (fun i hi => by
      have := h (i + 1) (by simpa using hi)
      rw [show o + (i + 1) = o + 1 + i by omega] at this
      simpa using this)
    have h0 := h 0 (by simp)
    rw [List.getElem?_cons_zero, Nat.add_zero] at h0
    obtain ⟨cs, hcs, htr⟩ := Option.bind_eq_some_iff.1 h0
    obtain ⟨_, hlen, hcell⟩ := World.cells?_some hcs
    obtain ⟨y, hy1, hy2⟩ := r n hn cs x htr
    have hget : ∀ (j : Nat) (v : Value), cs[j]? = some v → w.cell? (a.add (o * P.cellsOf e + j)) = some v := by
      intro j v hv
      have hj : j < P.cellsOf e := by
        have := (List.getElem?_eq_some_iff.1 hv).1
        omega
      rw [← Deep.add_add, hcell j hj]
      exact hv
    refine ⟨y :: l, cs ++ es', by simp [h1], ?_, ?_, ⟨B x.1, _, Nat.le_refl _, m.pos _, hy2, h4⟩, fun ho _ => ?_⟩
    · rw [List.flatMap_cons]
      exact hy1.append h2
    · intro j v hv
      by_cases hj : j < cs.length
      · rw [List.getElem?_append_left hj] at hv
        have := (cell_add (hget j v hv)).1
        rw [← Nat.add_assoc] at this
        exact this
      · rw [List.getElem?_append_right (by omega)] at hv
        have := h3 _ v hv
        rw [hlen] at this hj
        have e1 : a.off + (o + 1) * P.cellsOf e + (j - P.cellsOf e) = a.off + o * P.cellsOf e + j := by
          rw [Nat.add_mul]; omega
        rw [e1] at this
        exact this
    · subst ho
      have h00 : cs[0]? = some (cs[0]'(by omega)) := List.getElem?_eq_getElem (by omega)
      exact (cell_add (hget 0 _ h00)).2 (by simp)

theorem Rd.slice (m : Meas B) {e : TypeId} {enc' : α → Value} {sz : Nat} (ht : P.underlying t = some (.slice e)) (hsz : P.cellsOf e = sz) (hpos : 0 < sz) (r : Rd enc P w base sp hd B F e (fun x => cellsL (enc' x)) ok) (hw : ∀ x, wfE sz (enc' x)) :
    Rd enc P w base sp hd B F t (fun l : List α => [lstV sz l.length (l.map enc')]) (fun l n => ∃ k, k + 1 ≤ n ∧ OkL ok l k) := by
  intro fuel hf cs x hx
  rcases DataW.trod_slice ht hx with ⟨rfl, rfl⟩ | ⟨a, len, cap, elems, rest, n, rfl, rfl, rfl, hb, hl, hm, hlen, hel, _, _⟩
  · exact ⟨[], .cons (.lst0 none 0 (fun _ => rfl)) .nil, 0, m.pos _, trivial⟩
  · obtain ⟨l, es', h1, h2, h3, h4, h5⟩ := rows_build (a := a) (n := n) m r (by omega) (by omega) elems 0 (fun i hi => by rw [Nat.zero_add]; exact hel i (by omega))
    have hB := m.slice (elems.map (·.1)) (rest.map (·.1))
    rw [List.map_map] at hB
    refine ⟨l, .cons ?_ .nil, _, hB, h4⟩
    by_cases he : elems = []
    · subst he
      have : l = [] := by simpa using h1
      subst this
      have : len = 0 := by simpa using hlen.symm
      subst this
      exact .lst0 (some a) cap (fun h => by cases h)
    · have hs := h5 rfl he
      obtain ⟨b, o, s⟩ := a
      subst hs
      have hl2 : l.length = len := by omega
      rw [← hl2] at hl ⊢
      refine .lst (by simp) (fun v hv => ?_) (es' := es') ?_ (fun j v hv => ?_) hl
      · obtain ⟨x, _, rfl⟩ := List.mem_map.1 hv
        exact hw x
      · rw [List.flatMap_map]; exact h2
      · have := h3 j v hv
        rw [Nat.zero_mul, Nat.add_zero] at this
        exact this

theorem RdFs.nil {T : Nat} : RdFs enc P w base sp hd B F T T [] (fun _ : Unit => []) (fun _ _ => True) := by
  intro n _ cs xs hl _ _
  exact ⟨(), by rw [List.drop_of_length_le (by omega)]; exact .nil, trivial⟩
theorem RdFs.cons {T o c : Nat} {f : Field} {fs : List Field} {cells2 : β → List Value} {ok2 : β → Nat → Prop} (ho : f.offset = o) (hc : P.cellsOf f.type = c) (r : Rd enc P w base sp hd B F f.type cells ok)
    (rs : RdFs enc P w base sp hd B F T (o + c) fs cells2 ok2) : RdFs enc P w base sp hd B F T o (f :: fs) (fun p : α × β => cells p.1 ++ cells2 p.2) (fun p n => ∃ a b, a + b ≤ n ∧ ok p.1 a ∧ ok2 p.2 b) := by
  intro n hn cs xs hl hx h
  cases xs with
  | nil => simp at hx
  | cons x xs =>
    have h0 := h 0 f (by simp)
    rw [List.getElem?_cons_zero, ho, hc] at h0
    obtain ⟨y, hy1, hy2⟩ := r n hn _ x h0
    obtain ⟨z, hz1, hz2⟩ := rs n hn cs xs hl (by simpa using hx) (fun i g hg => by
      have := h (i + 1) g (by simpa using hg)
      simpa using this)
    refine ⟨(y, z), ?_, B x.1, _, Nat.le_refl _, hy2, hz2⟩
    rw [← List.take_append_drop c (cs.drop o), List.drop_drop]
    exact hy1.append hz1
theorem Rd.struct (m : Meas B) {fs : Array Field} {T : Nat} (ht : P.underlying t = some (.struct fs)) (hT : P.cellsOf t = T) (r : RdFs enc P w base sp hd B F T 0 fs.toList cells ok) : Rd enc P w base sp hd B (F + 1) t cells (fun x n => ∃ k, k + 1 ≤ n ∧ ok x k) := by
  intro fuel hf cs x hx
  obtain ⟨xs, n, rfl, rfl, hl, hlen, h⟩ := DataW.trod_struct ht hx
  obtain ⟨y, h1, h2⟩ := r n (by omega) cs xs (by omega) (by simpa using hlen) (fun i f hf => h i f (by simpa using hf))
  refine ⟨y, by simpa using h1, _, ?_, h2⟩
  have := m.agg (xs.map (·.1))
  rw [List.map_map] at this
  exact this
theorem Rd.down (r : Rd enc P w base sp hd B (F + 1) t cells ok) : Rd enc P w base sp hd B F t cells ok := fun fuel hf => r fuel (by omega)
theorem Rd.zero : Rd enc P w base sp hd B 0 t cells ok := by
  intro fuel hf cs x hx
  obtain rfl : fuel = 0 := by omega
  simp [DataW.trod] at hx
end
end Go.Proofs.YtmcmaklilfgdiaaGreat.Ev
