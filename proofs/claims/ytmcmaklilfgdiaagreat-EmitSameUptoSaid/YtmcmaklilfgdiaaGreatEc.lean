/- The evaluator's memory and the machine's: how they stand to each other. -/
import Derived.Test.YtmcmaklilfgdiaaGreatEb
import Derived.Laws.Cells
namespace Go.Proofs.YtmcmaklilfgdiaaGreat.Ev
open Go Go.RowKit

/-- where a block lies -/
structure Pl where
  blk : Nat
  off : Nat
  room : Nat
  esz : Nat
  len : Nat

/-- the blocks' places, and the machine's cells that stay as they are -/
structure Sg where
  pls : List (Option Pl)
  kp : Nat → Nat → Option Value

instance : HAppend Sg (List (Option Pl)) Sg := ⟨fun σ l => ⟨σ.pls ++ l, σ.kp⟩⟩
def Sg.length (σ : Sg) : Nat := σ.pls.length
def Sg.set (σ : Sg) (i : Nat) (q : Option Pl) : Sg := ⟨σ.pls.set i q, σ.kp⟩
theorem Sg.length_snoc (σ : Sg) (q : Option Pl) : (σ ++ [q]).length = σ.length + 1 := by
  show (σ.pls ++ [q]).length = _; simp [Sg.length]
theorem Sg.length_set (σ : Sg) (i : Nat) (q : Option Pl) : (σ.set i q).length = σ.length := by
  show (σ.pls.set i q).length = _; simp [Sg.length]

def pl (σ : Sg) (b : Nat) : Option Pl :=
  match σ.pls[b]? with
  | some (some p) => some p
  | _ => none

/-- the world at first; the machine's blocks that may turn; the blocks that the machine has not made yet; the cells that stayed at first -/
structure Bs where
  w : World
  un : Nat → Prop
  ok : Nat → Prop
  okw : ∀ k, w.heap.size ≤ k → ok k
  kp : Nat → Nat → Option Value

/-- an element of so many cells -/
def wfE (sz : Nat) (e : Value) : Prop := (cellsL e).length = sz ∧ ∀ v ∈ cellsL e, oneC v = true

mutual
/-- values without addresses of the evaluator's: what the machine holds for them, by the cells that stay -/
inductive CR (κ : Nat → Nat → Option Value) : Value → Value → Prop
  | bool (b : Bool) : CR κ (.bool b) (.bool b)
  | int (k : IntKind) (n : Int) : CR κ (.int k n) (.int k n)
  | string (s : ByteArray) : CR κ (.string s) (.string s)
  | nilptr : CR κ (.pointer none) (.pointer none)
  | nilslice : CR κ (.slice none 0 0) (.slice none 0 0)
  | nilmap : CR κ (.map none) (.map none)
  | func (f : FuncId) : CR κ (.func (.func f) ⟨[]⟩ ⟨[]⟩) (.func (.func f) ⟨[]⟩ ⟨[]⟩)
  | nilfunc : CR κ .nilFunc .nilFunc
  | niliface : CR κ .nilIface .nilIface
  | agg {a a' : List Value} (h : CRs κ a a') : CR κ (.agg ⟨a⟩) (.agg ⟨a'⟩)
  | tuple {a a' : List Value} (h : CRs κ a a') : CR κ (.tuple ⟨a⟩) (.tuple ⟨a'⟩)
  | lst {sz n : Nat} {es es' : List Value} {b i c : Nat} (hn : es.length = n) (hz : ∀ e ∈ es, wfE sz e) (h : CRs κ (es.flatMap cellsL) es')
      (hk : ∀ (j : Nat) (v : Value), es'[j]? = some v → κ b (i + j) = some v) (hc : n ≤ c) : CR κ (lstV sz n es) (.slice (some ⟨b, i, none⟩) n c)
  | lst0 {sz : Nat} (a : Option Addr) (c : Nat) (h : a = none → c = 0) : CR κ (lstV sz 0 []) (.slice a 0 c)
inductive CRs (κ : Nat → Nat → Option Value) : List Value → List Value → Prop
  | nil : CRs κ [] []
  | cons {v v' : Value} {l l' : List Value} (h : CR κ v v') (t : CRs κ l l') : CRs κ (v :: l) (v' :: l')
end

mutual
inductive VR (σ : Sg) : Value → Value → Prop
  | bool (b : Bool) : VR σ (.bool b) (.bool b)
  | int (k : IntKind) (n : Int) : VR σ (.int k n) (.int k n)
  | string (s : ByteArray) : VR σ (.string s) (.string s)
  | nilptr : VR σ (.pointer none) (.pointer none)
  | ptr {b i : Nat} {p : Pl} (h : pl σ b = some p) : VR σ (.pointer (some ⟨b, i, none⟩)) (.pointer (some ⟨p.blk, p.off + i, none⟩))
  | nilslice : VR σ (.slice none 0 0) (.slice none 0 0)
  | slice {b i n c : Nat} {p : Pl} (h : pl σ b = some p) (hc : c < inf) : VR σ (.slice (some ⟨b, i, none⟩) n c) (.slice (some ⟨p.blk, p.off + i, none⟩) n c)
  | sliceInf {b i n c : Nat} {p : Pl} (h : pl σ b = some p) (hn : n ≤ c) (hr : i + c * p.esz ≤ p.room) :
      VR σ (.slice (some ⟨b, i, none⟩) n inf) (.slice (some ⟨p.blk, p.off + i, none⟩) n c)
  | sliceEnd {b i : Nat} {p : Pl} (h : pl σ b = some p) (x : Addr) : VR σ (.slice (some ⟨b, i, none⟩) 0 inf) (.slice (some x) 0 0)
  | nilmap : VR σ (.map none) (.map none)
  | map {r : Nat} {p : Pl} (h : pl σ r = some p) : VR σ (.map (some r)) (.map (some p.blk))
  | func {f : FuncId} {a a' c c' : List Value} (ha : VRs σ a a') (hc : VRs σ c c') : VR σ (.func (.func f) ⟨a⟩ ⟨c⟩) (.func (.func f) ⟨a'⟩ ⟨c'⟩)
  | yield {l : Nat} {p : Pl} (h : pl σ l = some p) : VR σ (.func (.yield l) ⟨[]⟩ ⟨[]⟩) (.func (.yield p.blk) ⟨[]⟩ ⟨[]⟩)
  | opq {v : Value} (h : opqOk v = true) : VR σ (.func (.yield 0) ⟨[v]⟩ ⟨[]⟩) v
  | nilfunc : VR σ .nilFunc .nilFunc
  | iface {t : TypeId} {v v' : Value} (h : VR σ v v') : VR σ (.iface t v) (.iface t v')
  | niliface : VR σ .nilIface .nilIface
  | agg {a a' : List Value} (h : VRs σ a a') : VR σ (.agg ⟨a⟩) (.agg ⟨a'⟩)
  | tuple {a a' : List Value} (h : VRs σ a a') : VR σ (.tuple ⟨a⟩) (.tuple ⟨a'⟩)
  | lst {sz n : Nat} {es : List Value} {v' : Value} (h : CR σ.kp (lstV sz n es) v') : VR σ (lstV sz n es) v'
  | own {id c : Nat} {p : Pl} (h : pl σ id = some p) (hr : p.room ≠ 0) (hn : p.len ≤ c) (hc : c * p.esz ≤ p.room) : VR σ (ownV id) (.slice (some ⟨p.blk, p.off, none⟩) p.len c)
  | own0 {id : Nat} {p : Pl} (a : Option Addr) (h : pl σ id = some p) (hr : p.room = 0) (hl : p.len = 0) : VR σ (ownV id) (.slice a 0 0)
  | cptr {cells cells' : List Value} {b i : Nat} (h : CRs σ.kp cells cells') (hk : ∀ (j : Nat) (v : Value), cells'[j]? = some v → σ.kp b (i + j) = some v) : VR σ (cptrV cells) (.pointer (some ⟨b, i, none⟩))
inductive VRs (σ : Sg) : List Value → List Value → Prop
  | nil : VRs σ [] []
  | cons {v v' : Value} {l l' : List Value} (h : VR σ v v') (t : VRs σ l l') : VRs σ (v :: l) (v' :: l')
end

structure Ext (σ σ' : Sg) : Prop where
  at_ : ∀ (i : Nat) (p : Pl), pl σ i = some p → pl σ' i = some p
  kept : ∀ (b i : Nat) (v : Value), σ.kp b i = some v → σ'.kp b i = some v
instance {σ σ' : Sg} : CoeFun (Ext σ σ') (fun _ => ∀ (i : Nat) (p : Pl), pl σ i = some p → pl σ' i = some p) := ⟨Ext.at_⟩
theorem Ext.refl (σ : Sg) : Ext σ σ := ⟨fun _ _ h => h, fun _ _ _ h => h⟩
theorem Ext.trans {a b c : Sg} (h : Ext a b) (k : Ext b c) : Ext a c := ⟨fun i p x => k i p (h i p x), fun b i v x => k.kept b i v (h.kept b i v x)⟩
theorem pl_lt {σ : Sg} {i : Nat} {p : Pl} (h : pl σ i = some p) : i < σ.length := by
  unfold pl at h
  split at h
  · rename_i hh; exact (List.getElem?_eq_some_iff.1 hh).1
  · cases h
theorem pl_old (σ : Sg) (q : Option Pl) {i : Nat} (h : i < σ.length) : pl (σ ++ [q]) i = pl σ i := by
  unfold pl
  have : (σ ++ [q]).pls[i]? = σ.pls[i]? := List.getElem?_append_left h
  rw [this]
theorem pl_new (σ : Sg) (q : Option Pl) : pl (σ ++ [q]) σ.length = q := by
  unfold pl
  have : (σ ++ [q]).pls[σ.length]? = some q := by
    show (σ.pls ++ [q])[σ.pls.length]? = some q
    simp
  rw [this]; cases q <;> rfl
theorem Ext.snoc' (σ : Sg) (q : Option Pl) : Ext σ (σ ++ [q]) := ⟨fun i p h => by
  rw [pl_old σ q (pl_lt h)]; exact h, fun _ _ _ h => h⟩
/-- more cells stay -/
theorem Ext.keep (σ : Sg) {κ : Nat → Nat → Option Value} (h : ∀ (b i : Nat) (v : Value), σ.kp b i = some v → κ b i = some v) : Ext σ ⟨σ.pls, κ⟩ := ⟨fun _ _ h => h, h⟩

mutual
theorem CR.mono {κ κ' : Nat → Nat → Option Value} (e : ∀ (b i : Nat) (v : Value), κ b i = some v → κ' b i = some v) : ∀ {v v' : Value}, CR κ v v' → CR κ' v v'
  | _, _, .bool b => .bool b
  | _, _, .int k n => .int k n
  | _, _, .string s => .string s
  | _, _, .nilptr => .nilptr
  | _, _, .nilslice => .nilslice
  | _, _, .nilmap => .nilmap
  | _, _, .func f => .func f
  | _, _, .nilfunc => .nilfunc
  | _, _, .niliface => .niliface
  | _, _, .agg h => .agg (CRs.mono e h)
  | _, _, .tuple h => .tuple (CRs.mono e h)
  | _, _, .lst hn hz h hk hc => .lst hn hz (CRs.mono e h) (fun j v hj => e _ _ _ (hk j v hj)) hc
  | _, _, .lst0 a c h => .lst0 a c h
theorem CRs.mono {κ κ' : Nat → Nat → Option Value} (e : ∀ (b i : Nat) (v : Value), κ b i = some v → κ' b i = some v) : ∀ {l l' : List Value}, CRs κ l l' → CRs κ' l l'
  | _, _, .nil => .nil
  | _, _, .cons h t => .cons (CR.mono e h) (CRs.mono e t)
end

mutual
/-- a value without addresses, among the others -/
theorem CR.toVR {σ : Sg} : ∀ {v v' : Value}, CR σ.kp v v' → VR σ v v'
  | _, _, .bool b => .bool b
  | _, _, .int k n => .int k n
  | _, _, .string s => .string s
  | _, _, .nilptr => .nilptr
  | _, _, .nilslice => .nilslice
  | _, _, .nilmap => .nilmap
  | _, _, .func f => .func .nil .nil
  | _, _, .nilfunc => .nilfunc
  | _, _, .niliface => .niliface
  | _, _, .agg h => .agg (CRs.toVRs h)
  | _, _, .tuple h => .tuple (CRs.toVRs h)
  | _, _, .lst hn hz h hk hc => .lst (.lst hn hz h hk hc)
  | _, _, .lst0 a c h => .lst (.lst0 a c h)
theorem CRs.toVRs {σ : Sg} : ∀ {l l' : List Value}, CRs σ.kp l l' → VRs σ l l'
  | _, _, .nil => .nil
  | _, _, .cons h t => .cons (CR.toVR h) (CRs.toVRs t)
end
theorem Ext.snoc (σ : Sg) (p : Pl) : Ext σ (σ ++ [some p]) := Ext.snoc' σ (some p)

mutual
theorem VR.mono {σ σ' : Sg} (e : Ext σ σ') : ∀ {v v' : Value}, VR σ v v' → VR σ' v v'
  | _, _, .bool b => .bool b
  | _, _, .int k n => .int k n
  | _, _, .string s => .string s
  | _, _, .nilptr => .nilptr
  | _, _, .ptr h => .ptr (e _ _ h)
  | _, _, .nilslice => .nilslice
  | _, _, .slice h hc => .slice (e _ _ h) hc
  | _, _, .sliceInf h hn hr => .sliceInf (e _ _ h) hn hr
  | _, _, .sliceEnd h x => .sliceEnd (e _ _ h) x
  | _, _, .nilmap => .nilmap
  | _, _, .map h => .map (e _ _ h)
  | _, _, .func ha hc => .func (VRs.mono e ha) (VRs.mono e hc)
  | _, _, .yield h => .yield (e _ _ h)
  | _, _, .opq h => .opq h
  | _, _, .nilfunc => .nilfunc
  | _, _, .iface h => .iface (VR.mono e h)
  | _, _, .niliface => .niliface
  | _, _, .agg h => .agg (VRs.mono e h)
  | _, _, .tuple h => .tuple (VRs.mono e h)
  | _, _, .lst h => .lst (CR.mono e.kept h)
  | _, _, .own h hr hn hc => .own (e _ _ h) hr hn hc
  | _, _, .own0 a h hr hl => .own0 a (e _ _ h) hr hl
  | _, _, .cptr h hk => .cptr (CRs.mono e.kept h) (fun j v hj => e.kept _ _ _ (hk j v hj))
theorem VRs.mono {σ σ' : Sg} (e : Ext σ σ') : ∀ {l l' : List Value}, VRs σ l l' → VRs σ' l l'
  | _, _, .nil => .nil
  | _, _, .cons h t => .cons (VR.mono e h) (VRs.mono e t)
end

theorem VRs.length {σ : Sg} : ∀ {l l' : List Value}, VRs σ l l' → l.length = l'.length
  | _, _, .nil => rfl
  | _, _, .cons _ t => by simp [VRs.length t]
theorem VRs.append {σ : Sg} : ∀ {l l' m m' : List Value}, VRs σ l l' → VRs σ m m' → VRs σ (l ++ m) (l' ++ m')
  | _, _, _, _, .nil, h => h
  | _, _, _, _, .cons h t, k => .cons h (VRs.append t k)
theorem VRs.get {σ : Sg} : ∀ {l l' : List Value}, VRs σ l l' → ∀ {i : Nat} {v : Value}, l[i]? = some v → ∃ v', l'[i]? = some v' ∧ VR σ v v'
  | _, _, .nil, _, _, h => by simp at h
  | _, _, .cons h t, 0, _, e => by simp at e; subst e; exact ⟨_, rfl, h⟩
  | _, _, .cons h t, i + 1, _, e => by simp at e ⊢; exact VRs.get t e
theorem VRs.getNone {σ : Sg} {l l' : List Value} (h : VRs σ l l') {i : Nat} (e : l[i]? = none) : l'[i]? = none := by
  simp only [List.getElem?_eq_none_iff] at e ⊢; rw [← h.length]; exact e
theorem VRs.of {σ : Sg} : ∀ {l l' : List Value}, l.length = l'.length → (∀ (i : Nat) (v v' : Value), l[i]? = some v → l'[i]? = some v' → VR σ v v') → VRs σ l l'
  | [], [], _, _ => .nil
  | v :: l, v' :: l', hl, h => .cons (h 0 v v' rfl rfl) (VRs.of (by simpa using hl) fun i => h (i + 1))
theorem VRs.set {σ : Sg} : ∀ {l l' : List Value}, VRs σ l l' → ∀ (i : Nat) {v v' : Value}, VR σ v v' → VRs σ (l.set i v) (l'.set i v')
  | _, _, .nil, _, _, _, _ => .nil
  | _, _, .cons h t, 0, _, _, k => .cons k t
  | _, _, .cons h t, i + 1, _, _, k => .cons h (VRs.set t i k)
theorem VRs.drop {σ : Sg} : ∀ {l l' : List Value}, VRs σ l l' → ∀ (n : Nat), VRs σ (l.drop n) (l'.drop n)
  | _, _, h, 0 => h
  | _, _, .nil, _ + 1 => .nil
  | _, _, .cons h t, n + 1 => VRs.drop t n
theorem VRs.take {σ : Sg} : ∀ {l l' : List Value}, VRs σ l l' → ∀ (n : Nat), VRs σ (l.take n) (l'.take n)
  | _, _, h, 0 => .nil
  | _, _, .nil, _ + 1 => .nil
  | _, _, .cons h t, n + 1 => .cons h (VRs.take t n)
theorem VRs.replicate {σ : Sg} {v v' : Value} (h : VR σ v v') : ∀ n : Nat, VRs σ (List.replicate n v) (List.replicate n v')
  | 0 => .nil
  | n + 1 => .cons h (VRs.replicate h n)

theorem VR.simple {σ : Sg} {v : Value} (h : simpleV v = true) : VR σ v v := by
  unfold simpleV at h
  split at h
  all_goals first | (constructor; done) | (exact .func .nil .nil) | cases h
theorem VRs.simple {σ : Sg} : ∀ {l : List Value}, l.all simpleV = true → VRs σ l l
  | [], _ => .nil
  | v :: l, h => by simp only [List.all_cons, Bool.and_eq_true] at h; exact .cons (VR.simple h.1) (VRs.simple h.2)
theorem VR.closed {σ : Sg} {v : Value} (h : closedV v = true) : VR σ v v := by
  unfold closedV at h
  split at h
  · exact .agg (VRs.simple h)
  · exact .tuple (VRs.simple h)
  · exact VR.simple h

theorem VR.cells {σ : Sg} {v v' : Value} (h : VR σ v v') : VRs σ (cellsL v) v'.cells.toList := by
  cases h with
  | opq h =>
    have : v'.cells.toList = [v'] := by cases v' <;> first | rfl | (simp [opqOk] at h)
    rw [this]; exact .cons (.opq h) .nil
  | agg h => simpa [cellsL, Value.cells]
  | lst h => cases h with
    | lst hn hz h hk hc => exact .cons (.lst (.lst hn hz h hk hc)) .nil
    | lst0 a c h => exact .cons (.lst (.lst0 a c h)) .nil
  | own h hr hn hc => exact .cons (.own h hr hn hc) .nil
  | own0 a h hr hl => exact .cons (.own0 a h hr hl) .nil
  | cptr h hk => exact .cons (.cptr h hk) .nil
  | _ => first | (exact .cons (by constructor <;> assumption) .nil) | (exact .cons (by constructor) .nil)

/-- the entries of a map -/
inductive ERs (σ : Sg) : List (Value × Value × Nat) → List MapEntry → Prop
  | nil : ERs σ [] []
  | cons {k v : Value} {n : Nat} {e : MapEntry} {l : List (Value × Value × Nat)} {l' : List MapEntry} (hk : closedK k = true) (he : e.key = k) (hb : e.born = n) (hv : VR σ v e.val) (t : ERs σ l l') : ERs σ ((k, v, n) :: l) (e :: l')

theorem ERs.mono {σ σ' : Sg} (e : Ext σ σ') : ∀ {l : List (Value × Value × Nat)} {l' : List MapEntry}, ERs σ l l' → ERs σ' l l'
  | _, _, .nil => .nil
  | _, _, .cons hk he hb hv t => .cons hk he hb (hv.mono e) (ERs.mono e t)

theorem ERs.length {σ : Sg} : ∀ {l : List (Value × Value × Nat)} {l' : List MapEntry}, ERs σ l l' → l.length = l'.length
  | _, _, .nil => rfl
  | _, _, .cons _ _ _ _ t => by simp [ERs.length t]

/-- What a block of the evaluator's memory says of the machine's. -/
def BR (ok : Nat → Prop) (σ : Sg) (o : Option Obj) (b : ABlk) (p : Pl) : Prop :=
  match b with
  | .dead => True
  | .lst n es sz => p.esz = sz ∧ p.len = n ∧ es.length = n ∧ (∀ e ∈ es, wfE sz e) ∧ (p.room = 0 → n = 0) ∧
      (p.room ≠ 0 → ok p.blk ∧ n * sz ≤ p.room ∧ (∃ c T fz, o = some (.cells c T fz) ∧ p.off + p.room ≤ c.size ∧ (fz.1 = fz.2 ∨ c.size ≤ fz.1)) ∧
        ∃ es', CRs σ.kp (es.flatMap cellsL) es' ∧ ∀ (j : Nat) (v : Value), es'[j]? = some v → σ.kp p.blk (p.off + j) = some v)
  | .cells vs esz => p.esz = esz ∧ ok p.blk ∧ ∃ c T fz, o = some (.cells c T fz) ∧ p.off + p.room ≤ c.size ∧ vs.length ≤ p.room ∧
      (fz.1 = fz.2 ∨ c.size ≤ fz.1) ∧ ∀ i v, vs[i]? = some v → ∃ v', c[p.off + i]? = some v' ∧ VR σ v v'
  | .ro vs => ¬ ok p.blk ∧ ∃ c T fz, o = some (.cells c T fz) ∧ ∀ i v, vs[i]? = some v → ∃ v', c[p.off + i]? = some v' ∧ VR σ v v'
  | .iter s pos => ok p.blk ∧ p.off = 0 ∧ o = some (.stringIter s pos)
  | .loop st pend fn tmps params assign body d => ok p.blk ∧ ∃ tmps' pd, VRs σ tmps tmps' ∧ pl σ d = some pd ∧
      o = some (.loop { state := st, pending := pend, fn := fn, tmps := ⟨tmps'⟩, params := ⟨params⟩, assign := assign, body := body, defers := pd.blk })
  | .defs alive => ok p.blk ∧ o = some (.deferred (if alive then some [] else none))
  | .map es clock => ok p.blk ∧ ∃ es', o = some (.map ⟨es'⟩ clock) ∧ ERs σ es es'
  | .mapIter _ _ _ _ => False

theorem unfz {fz : Nat × Nat} {n j : Nat} (h : fz.1 = fz.2 ∨ n ≤ fz.1) (hj : j < n) : ¬ (fz.1 ≤ j ∧ j < fz.2) := by omega

def ABlk.live : ABlk → Bool
  | .dead | .ro _ | .lst .. => false
  | _ => true

theorem BR.mono {ok : Nat → Prop} {σ σ' : Sg} (e : Ext σ σ') {o : Option Obj} {b : ABlk} {p : Pl} (h : BR ok σ o b p) : BR ok σ' o b p := by
  cases b with
  | dead => trivial
  | cells vs esz =>
    obtain ⟨h1, h2, c, T, fz, h3, h4, h5, h6, h7⟩ := h
    exact ⟨h1, h2, c, T, fz, h3, h4, h5, h6, fun i v hv => let ⟨v', a, b⟩ := h7 i v hv; ⟨v', a, b.mono e⟩⟩
  | ro vs =>
    obtain ⟨h1, c, T, fz, h3, h7⟩ := h
    exact ⟨h1, c, T, fz, h3, fun i v hv => let ⟨v', a, b⟩ := h7 i v hv; ⟨v', a, b.mono e⟩⟩
  | iter s pos => exact h
  | loop st pend fn tmps params assign body d =>
    obtain ⟨h1, t, pd, h2, h3, h4⟩ := h
    exact ⟨h1, t, pd, h2.mono e, e _ _ h3, h4⟩
  | defs alive => exact h
  | map _ _ =>
    obtain ⟨h1, es', h2, h3⟩ := h
    exact ⟨h1, es', h2, h3.mono e⟩
  | mapIter _ _ _ _ => exact h
  | lst n es sz =>
    obtain ⟨h1, h2, h3, h4, h5, h6⟩ := h
    exact ⟨h1, h2, h3, h4, h5, fun hr => let ⟨g1, g2, g3, es', g4, g5⟩ := h6 hr; ⟨g1, g2, g3, es', g4.mono e.kept, fun j v hj => e.kept _ _ _ (g5 j v hj)⟩⟩

theorem BR.some {ok : Nat → Prop} {σ : Sg} {o : Option Obj} {b : ABlk} {p : Pl} (h : BR ok σ o b p) (hl : b.live = true) : ok p.blk ∧ ∃ x, o = some x := by
  cases b with
  | dead => cases hl
  | ro vs => cases hl
  | cells vs esz => obtain ⟨_, h2, c, T, fz, h3, _⟩ := h; exact ⟨h2, _, h3⟩
  | iter s pos => exact ⟨h.1, _, h.2.2⟩
  | loop st pend fn tmps params assign body d => obtain ⟨h1, t, pd, h2, h3, h4⟩ := h; exact ⟨h1, _, h4⟩
  | defs alive => exact ⟨h.1, _, h.2⟩
  | map _ _ => obtain ⟨h1, es', h2, h3⟩ := h; exact ⟨h1, _, h2⟩
  | mapIter _ _ _ _ => exact h.elim
  | lst _ _ _ => cases hl

/-- what may not turn has not turned -/
structure BelX (w0 : Bs) (w : World) : Prop where
  os : w.os = w0.w.os
  tape : w.tape = w0.w.tape
  output : w.output = w0.w.output
  size : w0.w.heap.size ≤ w.heap.size
  block : ∀ k, ¬ w0.ok k → w.heap[k]? = w0.w.heap[k]?

structure R (w0 : Bs) (σ : Sg) (h : AH) (w : World) : Prop where
  len : h.bs.length = h.n
  sl : σ.length = h.n
  br : ∀ (id : Nat) (b : ABlk) (p : Pl), h.get id = some b → pl σ id = some p → BR w0.ok σ w.heap[p.blk]? b p
  un : ∀ id, w0.un id → id < h.n ∧ pl σ id = none
  inj : ∀ (i j : Nat) (bi bj : ABlk) (pi pj : Pl), h.get i = some bi → h.get j = some bj → bi.live = true → bj.live = true →
    pl σ i = some pi → pl σ j = some pj → pi.blk = pj.blk → i = j
  below : BelX w0 w
  gl : ∀ g, g < gmax → ∃ p, pl σ g = some p ∧ p.blk = g ∧ p.off = 0
  /-- no other block turns where a list lies -/
  lone : ∀ (i j n sz : Nat) (es : List Value) (bj : ABlk) (pi pj : Pl), h.get i = some (.lst n es sz) → h.get j = some bj → bj.live = true →
    pl σ i = some pi → pl σ j = some pj → pi.room ≠ 0 → pi.blk ≠ pj.blk
  ltwo : ∀ (i j n sz n' sz' : Nat) (es es' : List Value) (pi pj : Pl), h.get i = some (.lst n es sz) → h.get j = some (.lst n' es' sz') →
    pl σ i = some pi → pl σ j = some pj → pi.room ≠ 0 → pj.room ≠ 0 → pi.blk = pj.blk → i = j
  keep : ∀ (b i : Nat) (v : Value), σ.kp b i = some v → w.cell? ⟨b, i, none⟩ = some v
  kown : ∀ (b i : Nat) (v : Value), σ.kp b i = some v → (∀ (id : Nat) (bk : ABlk) (p : Pl), h.get id = some bk → bk.live = true → pl σ id = some p → p.blk ≠ b) ∧
    ∀ (id n sz : Nat) (es : List Value) (p : Pl), h.get id = some (.lst n es sz) → pl σ id = some p → p.room ≠ 0 → p.blk = b → i < p.off + n * sz
  kpn : ∀ (b i : Nat) (v : Value), σ.kp b i = some v → w0.kp b i = some v ∨ w0.ok b

theorem AH.get_lt {h : AH} {id : Nat} {b : ABlk} (e : h.get id = some b) : id < h.n := by
  unfold AH.get at e
  split at e
  · rename_i hlt; simpa [Nat.blt_eq] using hlt
  · cases e

theorem AH.get_push (h : AH) (hl : h.bs.length = h.n) (b : ABlk) (id : Nat) :
    (h.push b).get id = if id = h.n then some b else h.get id := by
  unfold AH.get AH.push
  simp only [Nat.blt_eq]
  by_cases h1 : id = h.n
  · subst h1; simp
  · rw [if_neg h1]
    by_cases h2 : id < h.n
    · rw [if_pos (by omega), if_pos h2]
      have : h.n + 1 - 1 - id = (h.n - 1 - id) + 1 := by omega
      rw [this, List.getElem?_cons_succ]
    · rw [if_neg (by omega), if_neg h2]

theorem AH.get_set (h : AH) (hl : h.bs.length = h.n) (id : Nat) (hid : id < h.n) (b : ABlk) (k : Nat) :
    (h.set id b).get k = if k = id then some b else h.get k := by
  unfold AH.get AH.set
  simp only [Nat.blt_eq, if_pos hid]
  by_cases h1 : k = id
  · subst h1; rw [if_pos hid, if_pos rfl, List.getElem?_set_self (by omega)]
  · rw [if_neg h1]
    by_cases h2 : k < h.n
    · rw [if_pos h2, if_pos h2, List.getElem?_set_ne (by omega)]
    · rw [if_neg h2, if_neg h2]

theorem AH.len_set {h : AH} (hl : h.bs.length = h.n) (id : Nat) (b : ABlk) : (h.set id b).bs.length = (h.set id b).n := by
  unfold AH.set; simp only []; split <;> simp [hl]

section
variable {w0 : Bs} {σ : Sg} {h : AH} {w : World}

theorem R.blk_lt (r : R w0 σ h w) {id : Nat} {b : ABlk} {p : Pl} (e : h.get id = some b) (hl : b.live = true) (hp : pl σ id = some p) :
    w0.ok p.blk ∧ p.blk < w.heap.size := by
  have hb := r.br id b p e hp
  obtain ⟨h1, x, hx⟩ := hb.some hl
  exact ⟨h1, (Array.getElem?_eq_some_iff.1 hx).1⟩

theorem R.size (r : R w0 σ h w) : w0.w.heap.size ≤ w.heap.size := r.below.size
theorem R.okn (r : R w0 σ h w) : w0.ok w.heap.size := w0.okw _ r.below.size

theorem pl_push (r : R w0 σ h w) {q : Option Pl} {id : Nat} {b : ABlk} {p : Pl} (e : h.get id = some b) (hp : pl (σ ++ [q]) id = some p) : pl σ id = some p := by
  rw [pl_old σ q (by rw [r.sl]; exact AH.get_lt e)] at hp; exact hp

/-- other blocks that the machine has not made yet -/
def Bs.at (w0 : Bs) (U : Nat → Prop) : Bs := { w0 with un := U }
/-- nothing that is there may turn -/
def Bs.fresh (w : World) (κ : Nat → Nat → Option Value) : Bs := ⟨w, fun _ => False, fun k => w.heap.size ≤ k, fun _ h => h, κ⟩

theorem Bs.lt {w0 : Bs} {k : Nat} (h : ¬ w0.ok k) : k < w0.w.heap.size := by
  by_cases hk : k < w0.w.heap.size
  · exact hk
  · exact absurd (w0.okw k (by omega)) h

/-- a block that says something of the machine's -/
def ABlk.seen (b : ABlk) (p : Pl) : Prop :=
  match b with
  | .dead => False
  | .lst .. => p.room ≠ 0
  | _ => True

theorem BR.seen_ok {ok : Nat → Prop} {o : Option Obj} {b : ABlk} {p : Pl} (h : BR ok σ o b p) (hs : b.seen p) : (ok p.blk ∨ ¬ ok p.blk ∧ ∃ vs, b = .ro vs) ∧ ∃ x : Obj, o = Option.some x := by
  cases b with
  | dead => exact hs.elim
  | ro vs => obtain ⟨h1, c, T, fz, h2, _⟩ := h; exact ⟨.inr ⟨h1, vs, rfl⟩, _, h2⟩
  | lst n es sz => obtain ⟨_, _, _, _, _, h6⟩ := h; obtain ⟨g1, _, ⟨c, T, fz, g3, _⟩, _⟩ := h6 hs; exact ⟨.inl g1, _, g3⟩
  | cells vs esz => obtain ⟨_, h2, c, T, fz, h3, _⟩ := h; exact ⟨.inl h2, _, h3⟩
  | iter s pos => exact ⟨.inl h.1, _, h.2.2⟩
  | loop st pend fn tmps params assign body d => obtain ⟨h1, t, pd, h2, h3, h4⟩ := h; exact ⟨.inl h1, _, h4⟩
  | defs alive => exact ⟨.inl h.1, _, h.2⟩
  | map _ _ => obtain ⟨h1, es', h2, h3⟩ := h; exact ⟨.inl h1, _, h2⟩
  | mapIter _ _ _ _ => exact h.elim

theorem BR.unseen {ok : Nat → Prop} {o o' : Option Obj} {b : ABlk} {p : Pl} (h : BR ok σ o b p) (hs : ¬ b.seen p) : BR ok σ o' b p := by
  cases b with
  | dead => trivial
  | lst n es sz =>
    obtain ⟨h1, h2, h3, h4, h5, _⟩ := h
    exact ⟨h1, h2, h3, h4, h5, fun hr => absurd hr hs⟩
  | _ => exact absurd trivial hs

theorem R.seen_lt (r : R w0 σ h w) {id : Nat} {b : ABlk} {p : Pl} (e : h.get id = some b) (hp : pl σ id = some p) (hs : b.seen p) : p.blk < w.heap.size := by
  obtain ⟨_, x, hx⟩ := (r.br id b p e hp).seen_ok hs
  exact (Array.getElem?_eq_some_iff.1 hx).1

theorem cell_of {w w' : World} {b : Nat} (h : w'.heap[b]? = w.heap[b]?) (i : Nat) : w'.cell? ⟨b, i, none⟩ = w.cell? ⟨b, i, none⟩ := by
  simp only [World.cell?, h]

theorem kept_lt {w : World} {b i : Nat} {v : Value} (h : w.cell? ⟨b, i, none⟩ = some v) : b < w.heap.size := by
  by_cases hb : b < w.heap.size
  · exact hb
  · have : w.heap[b]? = none := Array.getElem?_eq_none (by omega)
    simp [World.cell?, this] at h

theorem live_lst {b : ABlk} {n sz : Nat} {es : List Value} (hl : b.live = true) : b ≠ .lst n es sz := by
  rintro rfl; cases hl

/-- the world has grown -/
theorem R.world (r : R w0 σ h w) {w' : World} (hb : BelX w0 w') (hk : ∀ k, k < w.heap.size → w'.heap[k]? = w.heap[k]?) : R w0 σ h w' where
  len := r.len
  sl := r.sl
  un := r.un
  br := fun id b p e hp => by
    have hc := r.br id b p e hp
    by_cases hs : b.seen p
    · rw [hk p.blk (r.seen_lt e hp hs)]; exact hc
    · exact hc.unseen hs
  inj := r.inj
  below := hb
  gl := r.gl
  lone := r.lone
  ltwo := r.ltwo
  keep := fun b i v hv => by
    have := r.keep b i v hv
    rw [cell_of (hk b (kept_lt this)) i]; exact this
  kown := r.kown
  kpn := r.kpn

/-- what else must not be where a new block lies -/
structure Free (σ : Sg) (h : AH) (b : ABlk) (p : Pl) : Prop where
  live : ∀ (j : Nat) (bj : ABlk) (pj : Pl), h.get j = some bj → bj.live = true → pl σ j = some pj → b.live = true ∨ b.seen p → pj.blk ≠ p.blk
  lst : ∀ (j n sz : Nat) (es : List Value) (pj : Pl), h.get j = some (.lst n es sz) → pl σ j = some pj → pj.room ≠ 0 → b.live = true ∨ b.seen p → pj.blk ≠ p.blk
  kept : ∀ (i : Nat) (v : Value), b.live = true → σ.kp p.blk i ≠ some v
  under : ∀ (i n sz : Nat) (es : List Value) (v : Value), b = .lst n es sz → p.room ≠ 0 → σ.kp p.blk i = some v → i < p.off + n * sz

/-- one block more -/
theorem R.push (r : R w0 σ h w) {b : ABlk} {p : Pl} (hb : BR w0.ok (σ ++ [some p]) w.heap[p.blk]? b p) (hf : b ≠ .dead → (∀ vs, b ≠ .ro vs) → Free σ h b p) : R w0 (σ ++ [some p]) (h.push b) w where
  len := by simp [AH.push, r.len]
  sl := by rw [Sg.length_snoc, r.sl]; rfl
  un := fun id hid => by
    obtain ⟨h1, h2⟩ := r.un id hid
    exact ⟨by simp only [AH.push]; omega, by rw [pl_old σ _ (by rw [r.sl]; exact h1)]; exact h2⟩
  br := by
    intro id c q e hq
    rw [AH.get_push h r.len] at e
    split at e
    · rename_i hid; subst hid; cases e
      rw [← r.sl, pl_new] at hq
      cases hq; exact hb
    · have hq := pl_push r e hq
      exact (r.br id c q e hq).mono (Ext.snoc σ p)
  inj := by
    intro i j bi bj pi pj ei ej li lj hi hj hblk
    rw [AH.get_push h r.len] at ei ej
    have new : ∀ pk, pl (σ ++ [some p]) h.n = some pk → pk = p := by
      intro pk hk; rw [← r.sl, pl_new] at hk; cases hk; rfl
    split at ei <;> split at ej
    · rename_i a b; rw [a, b]
    · rename_i a _
      subst a; cases ei
      have := new pi hi; subst this
      exact absurd hblk.symm ((hf (fun hh => by rw [hh] at li; cases li) (fun _ hh => by rw [hh] at li; cases li)).live j bj pj ej lj (pl_push r ej hj) (.inl li))
    · rename_i _ a
      subst a; cases ej
      have := new pj hj; subst this
      exact absurd hblk ((hf (fun hh => by rw [hh] at lj; cases lj) (fun _ hh => by rw [hh] at lj; cases lj)).live i bi pi ei li (pl_push r ei hi) (.inl lj))
    · exact r.inj i j bi bj pi pj ei ej li lj (pl_push r ei hi) (pl_push r ej hj) hblk
  below := r.below
  gl := fun g hg => let ⟨q, h1, h2⟩ := r.gl g hg; ⟨q, Ext.snoc' σ _ _ _ h1, h2⟩
  lone := by
    intro i j n sz es bj pi pj ei ej lj hi hj hr hblk
    rw [AH.get_push h r.len] at ei ej
    have new : ∀ pk, pl (σ ++ [some p]) h.n = some pk → pk = p := by
      intro pk hk; rw [← r.sl, pl_new] at hk; cases hk; rfl
    split at ei <;> split at ej
    · cases ei; cases ej; cases lj
    · rename_i a _
      subst a; cases ei
      have := new pi hi; subst this
      exact (hf (by nofun) (by nofun)).live j bj pj ej lj (pl_push r ej hj) (.inr hr) hblk.symm
    · rename_i _ a
      subst a; cases ej
      have := new pj hj; subst this
      exact (hf (fun hh => by rw [hh] at lj; cases lj) (fun _ hh => by rw [hh] at lj; cases lj)).lst i n sz es pi ei (pl_push r ei hi) hr (.inl lj) hblk
    · exact r.lone i j n sz es bj pi pj ei ej lj (pl_push r ei hi) (pl_push r ej hj) hr hblk
  ltwo := by
    intro i j n sz n' sz' es es' pi pj ei ej hi hj hri hrj hblk
    rw [AH.get_push h r.len] at ei ej
    have new : ∀ pk, pl (σ ++ [some p]) h.n = some pk → pk = p := by
      intro pk hk; rw [← r.sl, pl_new] at hk; cases hk; rfl
    split at ei <;> split at ej
    · rename_i a b; rw [a, b]
    · rename_i a _
      subst a; cases ei
      have := new pi hi; subst this
      exact absurd hblk.symm ((hf (by nofun) (by nofun)).lst j _ _ _ pj ej (pl_push r ej hj) hrj (.inr hri))
    · rename_i _ a
      subst a; cases ej
      have := new pj hj; subst this
      exact absurd hblk ((hf (by nofun) (by nofun)).lst i _ _ _ pi ei (pl_push r ei hi) hri (.inr hrj))
    · exact r.ltwo i j n sz n' sz' es es' pi pj ei ej (pl_push r ei hi) (pl_push r ej hj) hri hrj hblk
  keep := r.keep
  kown := by
    intro b' i v hv
    have new : ∀ pk, pl (σ ++ [some p]) h.n = some pk → pk = p := by
      intro pk hk; rw [← r.sl, pl_new] at hk; cases hk; rfl
    refine ⟨fun id bk q e lb hq hblk => ?_, fun id n sz es q e hq hr hblk => ?_⟩
    · rw [AH.get_push h r.len] at e
      split at e
      · rename_i a; subst a; cases e
        have := new q hq; subst this
        subst hblk
        exact (hf (fun hh => by rw [hh] at lb; cases lb) (fun _ hh => by rw [hh] at lb; cases lb)).kept i v lb hv
      · exact (r.kown b' i v hv).1 id bk q e lb (pl_push r e hq) hblk
    · rw [AH.get_push h r.len] at e
      split at e
      · rename_i a; subst a; cases e
        have := new q hq; subst this
        subst hblk
        exact (hf (by nofun) (by nofun)).under i n sz es v rfl hr hv
      · exact (r.kown b' i v hv).2 id n sz es q e (pl_push r e hq) hr hblk
  kpn := r.kpn

/-- a place where nothing has been -/
theorem R.free (r : R w0 σ h w) (b : ABlk) (p : Pl) {w1 : World} (hp : p.blk = w1.heap.size) (hw : w.heap.size ≤ w1.heap.size) : Free σ h b p where
  live := fun j bj pj ej lj hj _ hblk => by have := (r.blk_lt ej lj hj).2; omega
  lst := fun j n sz es pj ej hj hr _ hblk => by have := r.seen_lt ej hj (show (ABlk.lst n es sz).seen pj from hr); omega
  kept := fun i v _ hv => by have := kept_lt (r.keep _ _ _ hv); omega
  under := fun i n sz es v _ _ hv => by have := kept_lt (r.keep _ _ _ hv); omega

theorem BelX.alloc (hb : BelX w0 w) (o : Obj) : BelX w0 (w.alloc o) where
  os := hb.os
  tape := hb.tape
  output := hb.output
  size := by have := hb.size; simp; omega
  block := fun k hk => by rw [Below.heap_alloc w o k (Nat.lt_of_lt_of_le (Bs.lt hk) hb.size)]; exact hb.block k hk

/-- a new block -/
theorem R.alloc (r : R w0 σ h w) (o : Obj) (b : ABlk) (p : Pl) (hp : p.blk = w.heap.size)
    (hb : BR w0.ok (σ ++ [some p]) (some o) b p) : R w0 (σ ++ [some p]) (h.push b) (w.alloc o) := by
  have r1 := r.world (w' := w.alloc o) (r.below.alloc o) (fun k hk => Below.heap_alloc w o k hk)
  refine r1.push ?_ (fun _ _ => r.free b p hp (Nat.le_refl _))
  have : (w.alloc o).heap[p.blk]? = some o := by show (w.heap.push o)[p.blk]? = some o; rw [hp]; simp
  rw [this]; exact hb

theorem BelX.drew (hb : BelX w0 w) : BelX w0 w.drew := ⟨hb.os, hb.tape, hb.output, hb.size, hb.block⟩

/-- an order, or a capacity, that is drawn -/
theorem R.drew (r : R w0 σ h w) : R w0 σ h w.drew := r.world r.below.drew (fun _ _ => rfl)

/-- a block that turns -/
theorem R.turn (r : R w0 σ h w) {id : Nat} {b b' : ABlk} {p : Pl} {w' : World} (e : h.get id = some b) (hl : b.live = true) (hp : pl σ id = some p)
    (hs : w'.heap.size = w.heap.size) (ho : w'.os = w.os) (ht : w'.tape = w.tape) (hout : w'.output = w.output)
    (hk : ∀ k, k ≠ p.blk → w'.heap[k]? = w.heap[k]?) (hb : BR w0.ok σ w'.heap[p.blk]? b' p) (hnl : ∀ n es sz, b' ≠ .lst n es sz := by intro _ _ _ hh; cases hh) : R w0 σ (h.set id b') w' where
  len := AH.len_set r.len id b'
  sl := r.sl
  un := r.un
  br := by
    intro k c q ec hq
    rw [AH.get_set h r.len id (AH.get_lt e)] at ec
    split at ec
    · rename_i hid; subst hid; cases ec; rw [hp] at hq; cases hq; exact hb
    · rename_i hne
      have hc := r.br k c q ec hq
      by_cases hsn : c.seen q
      · have hne2 : q.blk ≠ p.blk := by
          by_cases hlc : c.live = true
          · exact fun hh => hne (r.inj k id c b q p ec e hlc hl hq hp hh)
          · cases c with
            | dead => exact hsn.elim
            | ro vs =>
              have := (r.blk_lt e hl hp).1
              intro hh; rw [← hh] at this; exact hc.1 this
            | lst n es sz => exact r.lone k id n sz es b q p ec e hl hq hp hsn
            | _ => exact absurd rfl hlc
        rw [hk q.blk hne2]; exact hc
      · exact hc.unseen hsn
  inj := by
    intro i j bi bj pi pj ei ej li lj hi hj hblk
    rw [AH.get_set h r.len id (AH.get_lt e)] at ei ej
    split at ei <;> split at ej
    · rename_i a b; rw [a, b]
    · rename_i a b; subst a; exact r.inj _ _ _ _ _ _ e ej hl lj hi hj hblk
    · rename_i a b; subst b; exact r.inj _ _ _ _ _ _ ei e li hl hi hj hblk
    · exact r.inj _ _ _ _ _ _ ei ej li lj hi hj hblk
  below := ⟨ho.trans r.below.os, ht.trans r.below.tape, hout.trans r.below.output, by have := r.below.size; omega, fun k hk2 => by
    rw [hk k (fun hh => hk2 (by rw [hh]; exact (r.blk_lt e hl hp).1))]; exact r.below.block k hk2⟩
  gl := r.gl
  lone := by
    intro i j n sz es bj pi pj ei ej lj hi hj hr
    rw [AH.get_set h r.len id (AH.get_lt e)] at ei ej
    split at ei
    · exact absurd (Option.some.inj ei) (hnl _ _ _)
    · split at ej
      · rename_i a; subst a; rw [hp] at hj; cases hj
        exact r.lone i j n sz es b pi p ei e hl hi hp hr
      · exact r.lone i j n sz es bj pi pj ei ej lj hi hj hr
  ltwo := by
    intro i j n sz n' sz' es es' pi pj ei ej hi hj hri hrj hblk
    rw [AH.get_set h r.len id (AH.get_lt e)] at ei ej
    split at ei
    · exact absurd (Option.some.inj ei) (hnl _ _ _)
    · split at ej
      · exact absurd (Option.some.inj ej) (hnl _ _ _)
      · exact r.ltwo i j n sz n' sz' es es' pi pj ei ej hi hj hri hrj hblk
  keep := fun b2 i v hv => by
    have := r.keep b2 i v hv
    rw [cell_of (hk b2 (fun hh => (r.kown b2 i v hv).1 id b p e hl hp hh.symm)) i]; exact this
  kown := fun b2 i v hv => by
    refine ⟨fun k bk q ek lk hq => ?_, fun k n sz es q ek hq hr => ?_⟩
    · rw [AH.get_set h r.len id (AH.get_lt e)] at ek
      split at ek
      · rename_i a; subst a; rw [hp] at hq; cases hq
        exact (r.kown b2 i v hv).1 k b p e hl hp
      · exact (r.kown b2 i v hv).1 k bk q ek lk hq
    · rw [AH.get_set h r.len id (AH.get_lt e)] at ek
      split at ek
      · exact absurd (Option.some.inj ek) (hnl _ _ _)
      · exact (r.kown b2 i v hv).2 k n sz es q ek hq hr
  kpn := r.kpn

/-- more cells that stay -/
theorem R.more (r : R w0 σ h w) {κ : Nat → Nat → Option Value} (hκ : ∀ (b i : Nat) (v : Value), σ.kp b i = some v → κ b i = some v)
    (hn : ∀ (b i : Nat) (v : Value), κ b i = some v → σ.kp b i = some v ∨ (w.cell? ⟨b, i, none⟩ = some v ∧ w0.ok b ∧
      (∀ (id : Nat) (bk : ABlk) (p : Pl), h.get id = some bk → bk.live = true → pl σ id = some p → p.blk ≠ b) ∧
      ∀ (id n sz : Nat) (es : List Value) (p : Pl), h.get id = some (.lst n es sz) → pl σ id = some p → p.room ≠ 0 → p.blk = b → i < p.off + n * sz)) : R w0 ⟨σ.pls, κ⟩ h w where
  len := r.len
  sl := r.sl
  un := r.un
  br := fun id b p e hp => (r.br id b p e hp).mono (Ext.keep σ hκ)
  inj := r.inj
  below := r.below
  gl := r.gl
  lone := r.lone
  ltwo := r.ltwo
  keep := fun b i v hv => by
    rcases hn b i v hv with hh | ⟨hh, _⟩
    · exact r.keep b i v hh
    · exact hh
  kown := fun b i v hv => by
    rcases hn b i v hv with hh | ⟨_, _, h1, h2⟩
    · exact r.kown b i v hh
    · exact ⟨h1, h2⟩
  kpn := fun b i v hv => by
    rcases hn b i v hv with hh | ⟨_, hh, _⟩
    · exact r.kpn b i v hh
    · exact .inr hh

/-- a block that is not looked at any more -/
theorem R.dead (r : R w0 σ h w) {id : Nat} {b : ABlk} {p : Pl} (e : h.get id = some b) (hl : b.live = true) (hp : pl σ id = some p) : R w0 σ (h.set id .dead) w := by
  exact r.turn e hl hp rfl rfl rfl rfl (fun _ _ => rfl) trivial

theorem R.cellsBR (r : R w0 σ h w) {b : Nat} {vs : List Value} (e : h.cells b = some vs) {p : Pl} (hp : pl σ b = some p) :
    ∃ c T fz, w.heap[p.blk]? = some (.cells c T fz) ∧ ∀ i v, vs[i]? = some v → ∃ v', c[p.off + i]? = some v' ∧ VR σ v v' := by
  unfold AH.cells at e
  split at e
  · rename_i vs' esz hg
    cases e
    have hb := r.br b _ p hg hp
    obtain ⟨_, _, c, T, fz, h3, _, _, _, h7⟩ := hb
    exact ⟨c, T, fz, h3, h7⟩
  · rename_i vs' hg
    cases e
    have hb := r.br b _ p hg hp
    obtain ⟨_, c, T, fz, h3, h7⟩ := hb
    exact ⟨c, T, fz, h3, h7⟩
  · cases e

theorem R.read1 (r : R w0 σ h w) {b i : Nat} {vs : List Value} {v : Value} {p : Pl} (e : h.cells b = some vs) (hp : pl σ b = some p) (hv : vs[i]? = some v) :
    ∃ v', w.cell? ⟨p.blk, p.off + i, none⟩ = some v' ∧ VR σ v v' := by
  obtain ⟨c, T, fz, hc, h7⟩ := r.cellsBR e hp
  obtain ⟨v', hv', hr⟩ := h7 i v hv
  exact ⟨v', by simp [World.cell?, hc, hv'], hr⟩

theorem Addr.add_eq (b o n : Nat) : (⟨b, o, none⟩ : Addr).add n = ⟨b, o + n, none⟩ := by
  unfold Addr.add; split
  · rename_i h; subst h; simp
  · rfl

theorem R.readN (r : R w0 σ h w) {P : Program} {b i n : Nat} {l : List Value} {p : Pl} (e : readN h b i n = some l) (hp : pl σ b = some p) :
    ∃ l' : List Value, (loadCells ⟨p.blk, p.off + i, none⟩ n).run P w = .ok ⟨l'⟩ w ∧ VRs σ l l' ∧ l.length = n ∧
      ∀ j v, l'[j]? = some v → w.cell? ⟨p.blk, p.off + i + j, none⟩ = some v := by
  unfold Ev.readN at e
  split at e
  · rename_i vs hvs
    split at e
    · rename_i hle
      cases e
      simp only [Nat.ble_eq] at hle
      obtain ⟨c, T, fz, hc, h7⟩ := r.cellsBR hvs hp
      have hlen : ((vs.drop i).take n).length = n := by simp; omega
      have key : ∀ j, j < n → ∃ v', c[p.off + (i + j)]? = some v' ∧ ∀ v, ((vs.drop i).take n)[j]? = some v → VR σ v v' := by
        intro j hj
        have : i + j < vs.length := by omega
        obtain ⟨v', hv', hr⟩ := h7 (i + j) vs[i + j] (by simp [this])
        refine ⟨v', hv', fun v hv => ?_⟩
        rw [List.getElem?_take_of_lt hj, List.getElem?_drop, List.getElem?_eq_getElem this] at hv
        cases hv; exact hr
      have hsz : p.off + (i + n) ≤ c.size ∨ n = 0 := by
        by_cases h0 : n = 0
        · exact .inr h0
        · obtain ⟨v', hv', _⟩ := key (n - 1) (by omega)
          have := (Array.getElem?_eq_some_iff.1 hv').1
          exact .inl (by omega)
      let l' := (List.range n).map fun j => c.getD (p.off + (i + j)) undef
      have hl' : ∀ j v, l'[j]? = some v → j < n ∧ c[p.off + (i + j)]? = some v := by
        intro j v hv
        simp only [l', List.getElem?_map, Option.map_eq_some_iff] at hv
        obtain ⟨k, hk, hv⟩ := hv
        have hlt : j < n := by have := (List.getElem?_eq_some_iff.1 hk).1; simpa using this
        rw [List.getElem?_range hlt] at hk
        cases hk
        refine ⟨hlt, ?_⟩
        obtain ⟨v', hv', _⟩ := key j hlt
        rw [← hv, Array.getD_eq_getD_getElem?, hv']; rfl
      have hcell : ∀ j v, l'[j]? = some v → w.cell? ⟨p.blk, p.off + i + j, none⟩ = some v := by
        intro j v hv
        obtain ⟨_, hx⟩ := hl' j v hv
        rw [← Nat.add_assoc] at hx
        simp [World.cell?, hc, hx]
      refine ⟨l', ?_, ?_, hlen, hcell⟩
      · have hn : l'.length = n := by simp [l']
        have := run_loadCells_list (P := P) (w := w) ⟨p.blk, p.off + i, none⟩ l' (fun j v hv => by rw [Addr.add_eq]; exact hcell j v hv)
        rw [hn] at this; exact this
      · refine VRs.of (by simp [l']; omega) fun j v v' hv hv' => ?_
        obtain ⟨hlt, hx⟩ := hl' j v' hv'
        obtain ⟨u, hu, hr⟩ := key j hlt
        rw [hx] at hu; cases hu
        exact hr v hv
    · cases e
  · cases e

theorem oneC_VR {v v' : Value} (h : VR σ v v') : v'.oneCell' = oneC v := by
  cases h <;> first | rfl | (rename_i hh; cases hh <;> rfl) | (rename_i hh; revert hh; cases v' <;> intro hh <;> first | rfl | (simp [opqOk] at hh))

theorem setMany_length : ∀ (news vs : List Value) (i : Nat), (setMany vs i news).length = vs.length
  | [], _, _ => rfl
  | v :: r, vs, i => by simp [setMany, setMany_length r]

theorem R.write (P : Program) : ∀ (news news' : List Value) {h : AH} {w : World} (r : R w0 σ h w) {b i j : Nat} {vs : List Value} {esz : Nat} {p : Pl}
    (hg : h.get b = some (.cells vs esz)) (hle : i + j + news.length ≤ vs.length) (hone : news.all oneC = true) (hv : VRs σ news news') (hp : pl σ b = some p),
    ∃ w', (storeCells ⟨p.blk, p.off + i, none⟩ news' j).run P w = .ok () w' ∧ R w0 σ (h.set b (.cells (setMany vs (i + j) news) esz)) w' ∧ w'.heap.size = w.heap.size
  | [], _, h, w, r, b, i, j, vs, esz, p, hg, hle, hone, .nil, hp => by
    refine ⟨w, by simp [storeCells], ?_, rfl⟩
    have hb := r.br b _ p hg hp
    exact r.turn hg rfl hp rfl rfl rfl rfl (fun _ _ => rfl) hb
  | v :: news, v' :: news', h, w, r, b, i, j, vs, esz, p, hg, hle, hone, .cons hv ht, hp => by
    simp only [List.all_cons, Bool.and_eq_true] at hone
    simp only [List.length_cons] at hle
    have hb := r.br b _ p hg hp
    obtain ⟨h1, h2, c, T, fz, h3, h4, h5, h6, h7⟩ := hb
    have hsz : p.off + (i + j) < c.size := by omega
    have hcell : w.cell? ⟨p.blk, p.off + i + j, none⟩ = some c[p.off + (i + j)] := by
      simp [World.cell?, h3, Nat.add_assoc, hsz]
    have hfz : w.frozen? ⟨p.blk, p.off + i + j, none⟩ = false := by
      have := unfz h6 (show p.off + i + j < c.size by omega)
      simp only [World.frozen?, h3]
      simp only [Bool.and_eq_false_iff, decide_eq_false_iff_not]
      by_cases hh : fz.1 ≤ p.off + i + j
      · exact .inr fun hx => this ⟨hh, hx⟩
      · exact .inl hh
    let w1 := w.setCell ⟨p.blk, p.off + i + j, none⟩ v'
    have hw1 : w1.heap[p.blk]? = some (.cells (c.setIfInBounds (p.off + i + j) v') T fz) := by
      simp [w1, World.setCell, Array.getElem?_modify, h3]
    have r1 : R w0 σ (h.set b (.cells (vs.set (i + j) v) esz)) w1 := by
      refine r.turn hg rfl hp (by simp [w1]) rfl rfl rfl (fun k hk => ?_) ?_
      · exact Below.heap_setCell w _ v' k hk
      · rw [hw1]
        refine ⟨h1, h2, _, T, fz, rfl, by simpa using h4, by simpa using h5, by simpa using h6, ?_⟩
        intro k u hu
        by_cases hk : k = i + j
        · subst hk
          rw [List.getElem?_set_self (by omega)] at hu; cases hu
          refine ⟨v', ?_, hv⟩
          rw [← Nat.add_assoc, Array.getElem?_setIfInBounds_self_of_lt (by omega)]
        · rw [List.getElem?_set_ne (by omega)] at hu
          obtain ⟨u', hu', hr⟩ := h7 k u hu
          exact ⟨u', by rw [Array.getElem?_setIfInBounds_ne (by omega)]; exact hu', hr⟩
    have hg1 : (h.set b (.cells (vs.set (i + j) v) esz)).get b = some (.cells (vs.set (i + j) v) esz) := by
      rw [AH.get_set h r.len b (AH.get_lt hg)]; simp
    obtain ⟨w2, hrun, r2, hs2⟩ := R.write P news news' r1 hg1 (i := i) (j := j + 1) (by simp; omega) hone.2 ht hp
    refine ⟨w2, ?_, ?_, by rw [hs2]; simp [w1]⟩
    · simp only [storeCells, Sem.run_bind, Addr.add_eq, run_store P w _ v' .plain (by rw [oneC_VR hv]; exact hone.1), hcell, hfz, Bool.false_eq_true, if_false, Result.andThen_ok]
      exact hrun
    · have : ((h.set b (.cells (vs.set (i + j) v) esz)).set b (.cells (setMany (vs.set (i + j) v) (i + (j + 1)) news) esz)) = h.set b (.cells (setMany vs (i + j) (v :: news)) esz) := by
        unfold AH.set; simp only []; split
        · simp [setMany, Nat.add_assoc]
        · rfl
      rw [← this]; exact r2

theorem R.writeN (r : R w0 σ h w) (P : Program) {b i : Nat} {news news' : List Value} {h' : AH} {p : Pl} (e : writeN h b i news = some h') (hv : VRs σ news news') (hp : pl σ b = some p) :
    ∃ w', (storeCells ⟨p.blk, p.off + i, none⟩ news').run P w = .ok () w' ∧ R w0 σ h' w' ∧ w'.heap.size = w.heap.size := by
  unfold Ev.writeN at e
  split at e
  · rename_i vs esz hg
    split at e
    · rename_i hc
      simp only [Bool.and_eq_true, Nat.ble_eq] at hc
      cases e
      exact R.write P news news' r hg (i := i) (j := 0) (by omega) hc.2 hv hp
    · cases e
  · cases e
end

end Go.Proofs.YtmcmaklilfgdiaaGreat.Ev
