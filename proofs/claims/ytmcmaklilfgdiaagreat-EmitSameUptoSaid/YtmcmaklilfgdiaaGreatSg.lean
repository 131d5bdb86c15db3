/- Symbolic runs: what is read behind a loop's head is kept, under new numbers. -/
import Derived.Test.YtmcmaklilfgdiaaGreatSf
namespace Go.Proofs.YtmcmaklilfgdiaaGreat.Ev
open Go Go.RowKit

/-- a value under new numbers -/
def renV (ρ : Nat → Option Nat) (v : Value) : Option Value :=
  match v with
  | .pointer (some ⟨b, i, none⟩) => (ρ b).map fun b' => .pointer (some ⟨b', i, none⟩)
  | .func (.yield id) _ ⟨[.bool false]⟩ => (ρ id).map ownV
  | .tuple ⟨[]⟩ => some undef
  | v => if cvV v then some v else none

def renL (ρ : Nat → Option Nat) : List Value → Option (List Value)
  | [] => some []
  | v :: l => match renV ρ v, renL ρ l with
    | some v', some l' => some (v' :: l')
    | _, _ => none

def renB (ρ : Nat → Option Nat) (b : ABlk) : Option ABlk :=
  match b with
  | .dead => some .dead
  | .ro vs => (renL ρ vs).map .ro
  | .cells vs esz => (renL ρ vs).map (.cells · esz)
  | .lst n es sz => some (.lst n es sz)
  | _ => none

def maskL (live : List Tmp) : Nat → List Value → List Value
  | _, [] => []
  | i, v :: l => (if live.contains i then v else undef) :: maskL live (i + 1) l

/-- a block that a value points at -/
def idOf (v : Value) : Option Nat :=
  match v with
  | .pointer (some ⟨b, _, none⟩) => some b
  | .func (.yield id) _ ⟨[.bool false]⟩ => some id
  | _ => none

def addIds (ids : List Nat) : List Value → List Nat
  | [] => ids
  | v :: l => match idOf v with
    | some id => if ids.contains id then addIds ids l else addIds (ids ++ [id]) l
    | none => addIds ids l

/-- all blocks that are reached, from the i-th on -/
def reachL (h : AH) : Nat → Nat → List Nat → List Nat
  | 0, _, ids => ids
  | f + 1, i, ids => match ids[i]? with
    | none => ids
    | some id => match h.get id with
      | some (.cells vs _) => reachL h f (i + 1) (addIds ids vs)
      | _ => reachL h f (i + 1) ids

def idxOf (ids : List Nat) (id : Nat) : Option Nat := go ids 0
  where
  go : List Nat → Nat → Option Nat
    | [], _ => none
    | x :: l, k => if Nat.beq x id then some k else go l (k + 1)

def blksOf (h : AH) (ids : List Nat) : List Nat → Option (List ABlk)
  | [] => some []
  | id :: l => match h.get id with
    | some b => match renB (idxOf ids) b, blksOf h ids l with
      | some b', some l' => some (b' :: l')
      | _, _ => none
    | none => none

def nodupB : List Nat → Bool
  | [] => true
  | x :: l => !l.contains x && nodupB l

def preB : Nat → List Nat → Bool
  | 0, _ => true
  | _ + 1, [] => false
  | n + 1, l => match l[n]? with
    | some k => Nat.beq k n && preB n l
    | none => false

/-- a list that is none yet, in a cell of a block: as a list that a block owns -/
noncomputable def ownCell (h : AH) (v : Option Value) (i sz : Nat) : AH :=
  match v with
  | some (.pointer (some ⟨id, 0, none⟩)) => match h.get id with
    | some (.cells vs e) => match idxL vs i with
      | some (.slice none 0 0) => (h.push (.lst 0 [] sz)).set id (.cells (setL vs (ownV h.n) i) e)
      | _ => h
    | _ => h
  | _ => h
/-- lists that are none yet: as lists that a block owns; a great slot's number tells a cell too -/
noncomputable def ownify : List (Tmp × Nat) → AF → AH → AF × AH
  | [], a, h => (a, h)
  | (t, sz) :: l, a, h => match Nat.blt t 4096 with
    | true => match idxL a.tmps t with
      | some (.slice none 0 0) => ownify l { a with tmps := setL a.tmps (ownV h.n) t } (h.push (.lst 0 [] sz))
      | _ => ownify l a h
    | false => ownify l a (ownCell h (idxL a.tmps (t % 4096)) (t / 4096 - 1) sz)

/-- the frame and the memory, of what is kept alone -/
def canonS (m : Nat) (live : List Tmp) (a : AF) (h : AH) : Option (AF × AH) :=
  match a.defs, a.rnd with
  | [], none =>
    match reachL h 64 0 (addIds (List.range m) (maskL live 0 a.tmps)) with
    | ids =>
      if nodupB ids && preB m ids && Nat.ble gmax m then
        match renL (idxOf ids) (maskL live 0 a.tmps), blksOf h ids ids with
        | some ts, some bs => some (⟨a.fn, ts, [], none⟩, ⟨ids.length, bs.reverse⟩)
        | _, _ => none
      else none
  | _, _ => none

section
variable {P : Program} {σ : Sg} {w0 : Bs} {h : AH} {w : World}

/-- any value is a value that isn't looked at -/
theorem idxOf_go {id : Nat} : ∀ (l : List Nat) (k j : Nat), idxOf.go id l k = some j → k ≤ j ∧ l[j - k]? = some id
  | [], _, _, e => by cases e
  | x :: l, k, j, e => by
    unfold idxOf.go at e
    split at e
    · rename_i hx
      cases e
      simp only [Nat.beq_eq] at hx
      subst hx
      exact ⟨Nat.le_refl _, by simp⟩
    · obtain ⟨h1, h2⟩ := idxOf_go l (k + 1) j e
      refine ⟨by omega, ?_⟩
      rw [show j - k = (j - (k + 1)) + 1 by omega, List.getElem?_cons_succ]
      exact h2
theorem idxOf_get {ids : List Nat} {id j : Nat} (e : idxOf ids id = some j) : ids[j]? = some id := by
  have := (idxOf_go ids 0 j e).2
  simpa using this

theorem jvs_ex : ∀ (cs : List Value), (∀ x ∈ cs, ∃ v, ∀ σ, VR σ v x) → ∃ vs, ∀ σ, VRs σ vs cs
  | [], _ => ⟨[], fun _ => .nil⟩
  | x :: cs, h => by
    obtain ⟨v, hv⟩ := h x (by simp)
    obtain ⟨vs, hvs⟩ := jvs_ex cs (fun y hy => h y (by simp [hy]))
    exact ⟨v :: vs, fun σ => .cons (hv σ) (hvs σ)⟩

/-- some value of the evaluator's for any of the machine's -/
theorem jv_ex : ∀ (n : Nat) (v' : Value), SizeOf.sizeOf v' ≤ n → ∃ v, ∀ σ, VR σ v v'
  | 0, v', h => by cases v' <;> simp at h
  | n + 1, v', h => by
    cases v' with
    | agg cs =>
      obtain ⟨cs⟩ := cs
      obtain ⟨vs, hvs⟩ := jvs_ex cs (fun x hx => jv_ex n x (by
        have := List.sizeOf_lt_of_mem hx
        simp only [Value.agg.sizeOf_spec, Array.mk.sizeOf_spec] at h
        omega))
      exact ⟨.agg ⟨vs⟩, fun σ => .agg (hvs σ)⟩
    | tuple cs =>
      obtain ⟨cs⟩ := cs
      obtain ⟨vs, hvs⟩ := jvs_ex cs (fun x hx => jv_ex n x (by
        have := List.sizeOf_lt_of_mem hx
        simp only [Value.tuple.sizeOf_spec, Array.mk.sizeOf_spec] at h
        omega))
      exact ⟨.tuple ⟨vs⟩, fun σ => .tuple (hvs σ)⟩
    | bool b => exact ⟨.bool b, fun σ => .bool b⟩
    | _ => exact ⟨opq _, fun σ => .opq rfl⟩

theorem renV_VR {ρ : Nat → Option Nat} {σ' : Sg} (hp : ∀ id k, ρ id = some k → pl σ' k = pl σ id) (hκ : σ'.kp = σ.kp) {v v' u : Value} (e : renV ρ v = some u) (hv : VR σ v v') : VR σ' u v' := by
  unfold renV at e
  split at e
  · rename_i b i
    simp only [Option.map_eq_some_iff] at e
    obtain ⟨k, hk, rfl⟩ := e
    obtain ⟨p, hpl, rfl⟩ := ptr_inv hv
    exact .ptr (by rw [hp _ _ hk]; exact hpl)
  · rename_i id _
    simp only [Option.map_eq_some_iff] at e
    obtain ⟨k, hk, rfl⟩ := e
    cases hv with
    | own h1 h2 h3 h4 => exact .own (by rw [hp _ _ hk]; exact h1) h2 h3 h4
    | own0 a h1 h2 h3 => exact .own0 a (by rw [hp _ _ hk]; exact h1) h2 h3
  · cases e
    cases hv with
    | tuple hh => cases hh; exact .tuple .nil
  · split at e
    · rename_i hc
      cases e
      have := cvV_CR hc hv
      rw [← hκ] at this
      exact CR.toVR this
    · cases e

theorem renL_VRs {ρ : Nat → Option Nat} {σ' : Sg} (hp : ∀ id k, ρ id = some k → pl σ' k = pl σ id) (hκ : σ'.kp = σ.kp) : ∀ {l l' m : List Value}, renL ρ l = some m → VRs σ l l' → VRs σ' m l'
  | _, _, _, e, .nil => by cases e; exact .nil
  | _, _, _, e, .cons hv ht => by
    unfold renL at e
    split at e
    · rename_i u m h1 h2
      cases e
      exact .cons (renV_VR hp hκ h1 hv) (renL_VRs hp hκ h2 ht)
    · cases e

theorem renL_get {ρ : Nat → Option Nat} : ∀ {l m : List Value}, renL ρ l = some m → m.length = l.length ∧ ∀ (i : Nat) (u : Value), m[i]? = some u → ∃ v, l[i]? = some v ∧ renV ρ v = some u
  | [], _, e => by cases e; exact ⟨rfl, fun i u h => by simp at h⟩
  | v :: l, _, e => by
    unfold renL at e
    split at e
    · rename_i u m h1 h2
      cases e
      obtain ⟨g1, g2⟩ := renL_get h2
      refine ⟨by simp [g1], fun i x hx => ?_⟩
      cases i with
      | zero => simp at hx; subst hx; exact ⟨v, rfl, h1⟩
      | succ i => simp at hx ⊢; exact g2 i x hx
    · cases e

theorem renB_BR {ρ : Nat → Option Nat} {σ' : Sg} {ok : Nat → Prop} (hp : ∀ id k, ρ id = some k → pl σ' k = pl σ id) (hκ : σ'.kp = σ.kp) {b b' : ABlk} {ob : Option Obj} {p : Pl} (e : renB ρ b = some b') (hb : BR ok σ ob b p) : BR ok σ' ob b' p := by
  unfold renB at e
  split at e
  · cases e; trivial
  · simp only [Option.map_eq_some_iff] at e
    obtain ⟨m, hm, rfl⟩ := e
    obtain ⟨h1, c, T, fz, h2, h3⟩ := hb
    obtain ⟨_, g2⟩ := renL_get hm
    refine ⟨h1, c, T, fz, h2, fun i u hu => ?_⟩
    obtain ⟨v, hv, hr⟩ := g2 i u hu
    obtain ⟨v', k1, k2⟩ := h3 i v hv
    exact ⟨v', k1, renV_VR hp hκ hr k2⟩
  · simp only [Option.map_eq_some_iff] at e
    obtain ⟨m, hm, rfl⟩ := e
    obtain ⟨h0, h1, c, T, fz, h2, h3, h4, h5, h6⟩ := hb
    obtain ⟨g1, g2⟩ := renL_get hm
    refine ⟨h0, h1, c, T, fz, h2, h3, by rw [g1]; exact h4, h5, fun i u hu => ?_⟩
    obtain ⟨v, hv, hr⟩ := g2 i u hu
    obtain ⟨v', k1, k2⟩ := h6 i v hv
    exact ⟨v', k1, renV_VR hp hκ hr k2⟩
  · cases e
    obtain ⟨h1, h2, h3, h4, h5, h6⟩ := hb
    refine ⟨h1, h2, h3, h4, h5, fun hr => ?_⟩
    obtain ⟨g1, g2, g3, es', g4, g5⟩ := h6 hr
    exact ⟨g1, g2, g3, es', by rw [hκ]; exact g4, by rw [hκ]; exact g5⟩
  · cases e

theorem renB_live {ρ : Nat → Option Nat} {b b' : ABlk} (e : renB ρ b = some b') : b'.live = b.live ∧ ∀ n es sz, b' = .lst n es sz → b = .lst n es sz := by
  unfold renB at e
  split at e
  · cases e; exact ⟨rfl, fun _ _ _ h => by cases h⟩
  · simp only [Option.map_eq_some_iff] at e
    obtain ⟨m, hm, rfl⟩ := e
    exact ⟨rfl, fun _ _ _ h => by cases h⟩
  · simp only [Option.map_eq_some_iff] at e
    obtain ⟨m, hm, rfl⟩ := e
    exact ⟨rfl, fun _ _ _ h => by cases h⟩
  · cases e; exact ⟨rfl, fun _ _ _ h => h⟩
  · cases e

theorem blksOf_get {ρids : List Nat} : ∀ {ids : List Nat} {bs : List ABlk}, blksOf h ρids ids = some bs → bs.length = ids.length ∧ ∀ (k : Nat) (b' : ABlk), bs[k]? = some b' → ∃ id b, ids[k]? = some id ∧ h.get id = some b ∧ renB (idxOf ρids) b = some b'
  | [], _, e => by cases e; exact ⟨rfl, fun k b' hb => by simp at hb⟩
  | id :: ids, _, e => by
    unfold blksOf at e
    split at e
    · rename_i b hb
      split at e
      · rename_i b1 l1 h1 h2
        cases e
        obtain ⟨g1, g2⟩ := blksOf_get h2
        refine ⟨by simp [g1], fun k x hx => ?_⟩
        cases k with
        | zero => simp at hx; subst hx; exact ⟨id, b, rfl, hb, h1⟩
        | succ k => simp only [List.getElem?_cons_succ] at hx ⊢; exact g2 k x hx
      · cases e
    · cases e

theorem nodup_inj : ∀ {l : List Nat}, nodupB l = true → ∀ (i j x : Nat), l[i]? = some x → l[j]? = some x → i = j
  | [], _, i, j, x, h1, _ => by simp at h1
  | y :: l, h, i, j, x, h1, h2 => by
    simp only [nodupB, Bool.and_eq_true, Bool.not_eq_true'] at h
    have hm : ∀ k : Nat, l[k]? = some y → False := by
      intro k hk
      have := List.mem_of_getElem? hk
      have hc : l.contains y = true := by simpa using this
      rw [h.1] at hc; cases hc
    cases i with
    | zero =>
      simp at h1; subst h1
      cases j with
      | zero => rfl
      | succ j => simp at h2; exact (hm j h2).elim
    | succ i =>
      cases j with
      | zero => simp at h2; subst h2; simp at h1; exact (hm i h1).elim
      | succ j => simp at h1 h2; rw [nodup_inj h.2 i j x h1 h2]

theorem preB_get : ∀ {n : Nat} {l : List Nat}, preB n l = true → ∀ k, k < n → l[k]? = some k
  | 0, _, _, k, hk => by omega
  | n + 1, [], h, _, _ => by cases h
  | n + 1, x :: l, h, k, hk => by
    simp only [preB] at h
    split at h
    · rename_i y hy
      simp only [Bool.and_eq_true, Nat.beq_eq] at h
      by_cases hkn : k = n
      · subst hkn; rw [hy, h.1]
      · exact preB_get h.2 k (by omega)
    · cases h

/-- some blocks alone, under new numbers -/
theorem R.restrict (r : R w0 σ h w) (hun : ∀ id, ¬ w0.un id) {ids : List Nat} {bs : List ABlk} {m : Nat} (hnd : nodupB ids = true) (hpre : preB m ids = true) (hgm : gmax ≤ m) (hb : blksOf h ids ids = some bs) :
    R w0 ⟨ids.map (fun id => pl σ id), σ.kp⟩ ⟨ids.length, bs.reverse⟩ w ∧ (∀ id k, idxOf ids id = some k → pl ⟨ids.map (fun id => pl σ id), σ.kp⟩ k = pl σ id) ∧ (∀ k, k < m → pl ⟨ids.map (fun id => pl σ id), σ.kp⟩ k = pl σ k) := by
  obtain ⟨hbl, hbg⟩ := blksOf_get hb
  have hpl : ∀ k, pl ⟨ids.map (fun id => pl σ id), σ.kp⟩ k = match ids[k]? with
      | some id => pl σ id
      | none => none := by
    intro k
    unfold pl
    simp only [List.getElem?_map]
    cases ids[k]? with
    | none => rfl
    | some id =>
      simp only [Option.map_some]
      cases hq : σ.pls[id]? with
      | none => rfl
      | some q => cases q <;> rfl
  have hidx : ∀ id k, idxOf ids id = some k → pl ⟨ids.map (fun id => pl σ id), σ.kp⟩ k = pl σ id := by
    intro id k hk
    rw [hpl, idxOf_get hk]
  have hget : ∀ k b', (⟨ids.length, bs.reverse⟩ : AH).get k = some b' → ∃ id b, ids[k]? = some id ∧ h.get id = some b ∧ renB (idxOf ids) b = some b' := by
    intro k b' e
    unfold AH.get at e
    simp only [Nat.blt_eq] at e
    split at e
    · rename_i hlt
      rw [List.getElem?_reverse (by omega)] at e
      have : bs.length - 1 - (ids.length - 1 - k) = k := by omega
      rw [this] at e
      exact hbg k b' e
    · cases e
  have hplk : ∀ {k id : Nat} {p : Pl}, ids[k]? = some id → pl ⟨ids.map (fun id => pl σ id), σ.kp⟩ k = some p → pl σ id = some p := by
    intro k id p hk hp
    rw [hpl, hk] at hp; exact hp
  refine ⟨?_, hidx, fun k hk => by rw [hpl, preB_get hpre k hk]⟩
  exact {
    len := by simp [hbl]
    sl := by simp [Sg.length]
    br := fun k b' p e hp => by
      obtain ⟨id, b, h1, h2, h3⟩ := hget k b' e
      exact renB_BR hidx rfl h3 (r.br id b p h2 (hplk h1 hp))
    un := fun id hid => absurd hid (hun id)
    inj := fun i j bi bj pi pj ei ej li lj hi hj hblk => by
      obtain ⟨i', b1, h1, h2, h3⟩ := hget i bi ei
      obtain ⟨j', b2, g1, g2, g3⟩ := hget j bj ej
      have := r.inj i' j' b1 b2 pi pj h2 g2 (by rw [← (renB_live h3).1]; exact li) (by rw [← (renB_live g3).1]; exact lj) (hplk h1 hi) (hplk g1 hj) hblk
      subst this
      exact nodup_inj hnd i j i' h1 g1
    below := r.below
    gl := fun g hg => by
      obtain ⟨p, h1, h2, h3⟩ := r.gl g hg
      exact ⟨p, by rw [hpl, preB_get hpre g (Nat.lt_of_lt_of_le hg hgm)]; exact h1, h2, h3⟩
    lone := fun i j n sz es bj pi pj ei ej lj hi hj hr => by
      obtain ⟨i', b1, h1, h2, h3⟩ := hget i _ ei
      obtain ⟨j', b2, g1, g2, g3⟩ := hget j bj ej
      have := (renB_live h3).2 _ _ _ rfl
      subst this
      exact r.lone i' j' n sz es b2 pi pj h2 g2 (by rw [← (renB_live g3).1]; exact lj) (hplk h1 hi) (hplk g1 hj) hr
    ltwo := fun i j n sz n' sz' es es' pi pj ei ej hi hj hri hrj hblk => by
      obtain ⟨i', b1, h1, h2, h3⟩ := hget i _ ei
      obtain ⟨j', b2, g1, g2, g3⟩ := hget j _ ej
      have := (renB_live h3).2 _ _ _ rfl
      subst this
      have := (renB_live g3).2 _ _ _ rfl
      subst this
      have := r.ltwo i' j' n sz n' sz' es es' pi pj h2 g2 (hplk h1 hi) (hplk g1 hj) hri hrj hblk
      subst this
      exact nodup_inj hnd i j i' h1 g1
    keep := r.keep
    kown := fun b i v hv => ⟨fun k bk p e lb hp => by
      obtain ⟨id, b1, h1, h2, h3⟩ := hget k bk e
      exact (r.kown b i v hv).1 id b1 p h2 (by rw [← (renB_live h3).1]; exact lb) (hplk h1 hp), fun k n sz es p e hp hr => by
      obtain ⟨id, b1, h1, h2, h3⟩ := hget k _ e
      have := (renB_live h3).2 _ _ _ rfl
      subst this
      exact (r.kown b i v hv).2 id n sz es p h2 (hplk h1 hp) hr⟩
    kpn := r.kpn }

end
end Go.Proofs.YtmcmaklilfgdiaaGreat.Ev
