/- Symbolic runs: values that are closed; lists read whole; calls that are known by what they answer. -/
import Derived.Test.YtmcmaklilfgdiaaGreatEt
namespace Go.Proofs.YtmcmaklilfgdiaaGreat.Ev
open Go Go.RowKit

/-- a value of one cell, closed -/
def cv1 : Value → Bool
  | .bool _ | .int _ _ | .string _ | .pointer none | .slice none 0 0 | .map none | .nilFunc | .nilIface => true
  | .func (.func _) ⟨[]⟩ ⟨[]⟩ => true
  | .func (.yield _) ⟨_⟩ ⟨[.slice none _ 0]⟩ => true
  | _ => false
def cv2 : Value → Bool
  | .agg ⟨cs⟩ => cs.all cv1
  | v => cv1 v
def cvV : Value → Bool
  | .tuple ⟨cs⟩ => cs.all cv2
  | v => cv2 v

section
variable {P : Program} {σ : Sg} {w0 : Bs} {h : AH} {w : World}

theorem cv1_CR {v v' : Value} (hc : cv1 v = true) (r : VR σ v v') : CR σ.kp v v' := by
  unfold cv1 at hc
  split at hc
  · cases r; constructor
  · cases r; constructor
  · cases r; constructor
  · cases r; constructor
  · cases r; constructor
  · cases r; constructor
  · cases r; constructor
  · cases r; constructor
  · cases r with
    | func ha hc => cases ha; cases hc; constructor
  · cases r with
    | lst h => exact h
  · cases hc

theorem cv1s_CR : ∀ {l l' : List Value}, l.all cv1 = true → VRs σ l l' → CRs σ.kp l l'
  | _, _, _, .nil => .nil
  | _, _, hc, .cons hv ht => by
    simp only [List.all_cons, Bool.and_eq_true] at hc
    exact .cons (cv1_CR hc.1 hv) (cv1s_CR hc.2 ht)

theorem cv2_CR {v v' : Value} (hc : cv2 v = true) (r : VR σ v v') : CR σ.kp v v' := by
  unfold cv2 at hc
  split at hc
  · cases r with
    | agg h => exact .agg (cv1s_CR hc h)
  · exact cv1_CR hc r

theorem cv2s_CR : ∀ {l l' : List Value}, l.all cv2 = true → VRs σ l l' → CRs σ.kp l l'
  | _, _, _, .nil => .nil
  | _, _, hc, .cons hv ht => by
    simp only [List.all_cons, Bool.and_eq_true] at hc
    exact .cons (cv2_CR hc.1 hv) (cv2s_CR hc.2 ht)

theorem cvV_CR {v v' : Value} (hc : cvV v = true) (r : VR σ v v') : CR σ.kp v v' := by
  unfold cvV at hc
  split at hc
  · cases r with
    | tuple h => exact .tuple (cv2s_CR hc h)
  · exact cv2_CR hc r

theorem cvVs_CR : ∀ {l l' : List Value}, l.all cvV = true → VRs σ l l' → CRs σ.kp l l'
  | _, _, _, .nil => .nil
  | _, _, hc, .cons hv ht => by
    simp only [List.all_cons, Bool.and_eq_true] at hc
    exact .cons (cvV_CR hc.1 hv) (cvVs_CR hc.2 ht)

/-- a list read whole: its elements' size, how many, the elements, the blocks that are looked at -/
def lookL (h : AH) : Value → Option (Nat × Nat × List Value × List Nat)
  | .func (.yield n) ⟨es⟩ ⟨[.slice none sz 0]⟩ => some (sz, n, es, [])
  | .func (.yield id) _ ⟨[.bool false]⟩ => match h.get id with
    | some (.lst n es sz) => some (sz, n, es, [id])
    | _ => none
  | _ => none

theorem own_CR (r : R w0 σ h w) {id n sz : Nat} {es : List Value} {first : Array Value} {v' : Value} (hg : h.get id = some (.lst n es sz)) (hv : VR σ (.func (.yield id) first ⟨[.bool false]⟩) v') : CR σ.kp (lstV sz n es) v' := by
  cases hv with
  | own hp hr hn hc =>
    obtain ⟨h1, h2, h3, h4, h5, h6⟩ := r.br id _ _ hg hp
    obtain ⟨_, _, _, es', g4, g5⟩ := h6 hr
    have := CR.lst (c := by assumption) h3 h4 g4 g5 (by rw [← h2]; exact hn)
    rw [h2]; exact this
  | own0 a hp hr hl =>
    obtain ⟨h1, h2, h3, h4, h5, h6⟩ := r.br id _ _ hg hp
    have hn := h5 hr
    subst hn
    have : es = [] := List.length_eq_zero_iff.1 h3
    subst this
    exact .lst0 a 0 (fun _ => rfl)

theorem lookL_CR (r : R w0 σ h w) {v v' : Value} {sz n : Nat} {es : List Value} {rd : List Nat} (e : lookL h v = some (sz, n, es, rd)) (hv : VR σ v v') : CR σ.kp (lstV sz n es) v' := by
  unfold lookL at e
  split at e
  · cases e
    cases hv with
    | lst h => exact h
  · split at e
    · rename_i hg
      cases e
      exact own_CR r hg hv
    · cases e
  · cases e

theorem lookL_congr {h2 : AH} {v : Value} {sz n : Nat} {es : List Value} {rd : List Nat} (e : lookL h v = some (sz, n, es, rd)) (hs : ∀ id ∈ rd, h2.get id = h.get id) : lookL h2 v = some (sz, n, es, rd) := by
  unfold lookL at e ⊢
  split at e
  · exact e
  · split at e
    · rename_i hg
      cases e
      simp only [hs _ (List.mem_singleton.2 rfl), hg]
    · cases e
  · cases e

/-- a list that is known, for one that a block owns -/
def snap1 (h : AH) (v : Value) : Value :=
  match v with
  | .func (.yield id) _ ⟨[.bool false]⟩ => match h.get id with
    | some (.lst n es sz) => lstV sz n es
    | _ => v
  | v => v
def snap2 (h : AH) (v : Value) : Value :=
  match v with
  | .agg ⟨cs⟩ => .agg ⟨cs.map (snap1 h)⟩
  | v => snap1 h v
def snapV (h : AH) (v : Value) : Value :=
  match v with
  | .tuple ⟨cs⟩ => .tuple ⟨cs.map (snap2 h)⟩
  | v => snap2 h v

theorem snap1_VR (r : R w0 σ h w) {v v' : Value} (hv : VR σ v v') : VR σ (snap1 h v) v' := by
  unfold snap1
  split
  · split
    · rename_i hg
      exact .lst (own_CR r hg hv)
    · exact hv
  · exact hv
theorem snap1s_VR (r : R w0 σ h w) : ∀ {l l' : List Value}, VRs σ l l' → VRs σ (l.map (snap1 h)) l'
  | _, _, .nil => .nil
  | _, _, .cons hv ht => .cons (snap1_VR r hv) (snap1s_VR r ht)
theorem snap2_VR (r : R w0 σ h w) {v v' : Value} (hv : VR σ v v') : VR σ (snap2 h v) v' := by
  unfold snap2
  split
  · cases hv with
    | agg h => exact .agg (snap1s_VR r h)
  · exact snap1_VR r hv
theorem snap2s_VR (r : R w0 σ h w) : ∀ {l l' : List Value}, VRs σ l l' → VRs σ (l.map (snap2 h)) l'
  | _, _, .nil => .nil
  | _, _, .cons hv ht => .cons (snap2_VR r hv) (snap2s_VR r ht)
theorem snapV_VR (r : R w0 σ h w) {v v' : Value} (hv : VR σ v v') : VR σ (snapV h v) v' := by
  unfold snapV
  split
  · cases hv with
    | tuple h => exact .tuple (snap2s_VR r h)
  · exact snap2_VR r hv
theorem snapVs_VR (r : R w0 σ h w) : ∀ {l l' : List Value}, VRs σ l l' → VRs σ (l.map (snapV h)) l'
  | _, _, .nil => .nil
  | _, _, .cons hv ht => .cons (snapV_VR r hv) (snapVs_VR r ht)

/-! Calls that are known by what they answer. -/

def Kept (κ : Nat → Nat → Option Value) (w : World) : Prop := ∀ (b i : Nat) (v : Value), κ b i = some v → w.cell? ⟨b, i, none⟩ = some v

/-- the package-level variables hold what they are taken to hold -/
def GlobOK (gs : List ABlk) (w : World) : Prop := gs.length = gmax ∧ gmax ≤ w.heap.size ∧ ∀ (κ : Nat → Nat → Option Value) (g : Nat) (b : ABlk), gs[g]? = some b →
  (b = .dead ∨ ∃ vs, b = .ro vs) ∧ BR (fun k => w.heap.size ≤ k) (plStart gmax κ) w.heap[g]? b ⟨g, 0, 0, 0, 0⟩

theorem GlobOK.grow {gs : List ABlk} {w w' : World} (g : GlobOK gs w) (hs : w.heap.size ≤ w'.heap.size) (hk : ∀ k, k < w.heap.size → k < gmax → w'.heap[k]? = w.heap[k]?) : GlobOK gs w' := by
  refine ⟨g.1, Nat.le_trans g.2.1 hs, fun κ i b hb => ?_⟩
  obtain ⟨h1, h2⟩ := g.2.2 κ i b hb
  have hi : i < gmax := by rw [← g.1]; exact (List.getElem?_eq_some_iff.1 hb).1
  refine ⟨h1, ?_⟩
  rcases h1 with rfl | ⟨vs, rfl⟩
  · trivial
  · obtain ⟨g1, c, T, fz, g2, g3⟩ := h2
    simp only [Nat.not_le] at g1
    have hlt : i < w.heap.size := g1
    refine ⟨by simp only [Nat.not_le]; show i < w'.heap.size; omega, c, T, fz, ?_, g3⟩
    rw [hk i hlt hi]; exact g2

/-- what a call of closed values answers, wherever these lie; all that was there stays -/
def K1 (P : Program) (gs : List ABlk) (f : FuncId) (args : List Value) (v : Value) : Prop :=
  ∀ (κ : Nat → Nat → Option Value) (w : World) (args' : Array Value), GlobOK gs w → Kept κ w → CRs κ args args'.toList →
    Calls P f args' w fun e w' => ∃ κ' v', e = .returned v' ∧ CR κ' v v' ∧ (∀ (b i : Nat) (u : Value), κ b i = some u → κ' b i = some u) ∧ Kept κ' w' ∧
      (∀ (b i : Nat) (u : Value), κ' b i = some u → κ b i = some u ∨ w.heap.size ≤ b) ∧ Below w.heap.size w w'

/-- the package-level variables, throughout a run -/
def G0 (gs : List ABlk) (w0 : Bs) : Prop := GlobOK gs w0.w ∧ ∀ g, g < gmax → ¬ w0.ok g

theorem glob_of {gs : List ABlk} (g : G0 gs w0) (r : R w0 σ h w) : GlobOK gs w :=
  g.1.grow r.below.size fun k _ hg => r.below.block k (g.2 k hg)

theorem R.below' (r : R w0 σ h w) {w' : World} (hbel : Below w.heap.size w w') : R w0 σ h w' :=
  r.world ⟨hbel.os.trans r.below.os, hbel.tape.trans r.below.tape, hbel.output.trans r.below.output, Nat.le_trans r.below.size hbel.size, fun k hk => by
    rw [hbel.block k (Nat.lt_of_lt_of_le (Bs.lt hk) r.below.size)]; exact r.below.block k hk⟩ hbel.block

theorem K1.lift {gs : List ABlk} (g : G0 gs w0) {f : FuncId} {args : List Value} {args' : Array Value} {v : Value} (k : K1 P gs f args v) (hc : args.all cvV = true) (r : R w0 σ h w) (hv : VRs σ args args'.toList) :
    Calls P f args' w fun e w' => ∃ σ' v', e = .returned v' ∧ Ext σ σ' ∧ R w0 σ' h w' ∧ VR σ' v v' := by
  refine (k σ.kp w args' (glob_of g r) r.keep (cvVs_CR hc hv)).mono ?_
  rintro e w' ⟨κ', v', rfl, h1, h2, h3, h4, h5⟩
  have r1 := r.below' h5
  refine ⟨⟨σ.pls, κ'⟩, v', rfl, Ext.keep σ h2, r1.more h2 (fun b i u hu => ?_), CR.toVR h1⟩
  rcases h4 b i u hu with hh | hh
  · exact .inl hh
  · refine .inr ⟨h3 b i u hu, w0.okw b (Nat.le_trans r.below.size hh), fun id bk p e lb hp hb => ?_, fun id n sz es p e hp hr hb => ?_⟩
    · have := (r.blk_lt e lb hp).2; omega
    · have := r.seen_lt e hp (show (ABlk.lst n es sz).seen p from hr); omega

end
end Go.Proofs.YtmcmaklilfgdiaaGreat.Ev
