/- Symbolic runs: one operation, what it reads, what it writes. -/
import Derived.Test.YtmcmaklilfgdiaaGreatSa
namespace Go.Proofs.YtmcmaklilfgdiaaGreat.Ev
open Go Go.RowKit

def Grow (h h' : AH) (wr : List Nat) : Prop := h.bs.length = h.n → h.n ≤ h'.n ∧ h'.bs.length = h'.n ∧ ∀ id, id < h.n → id ∉ wr → h'.get id = h.get id

theorem Grow.refl (h : AH) (wr : List Nat) : Grow h h wr := fun hl => ⟨Nat.le_refl _, hl, fun _ _ _ => rfl⟩
theorem Grow.push (h : AH) (b : ABlk) (wr : List Nat) : Grow h (h.push b) wr := fun hl => ⟨by simp [AH.push], by simp [AH.push, hl], fun id hid _ => by
  rw [AH.get_push h hl, if_neg (by omega)]⟩
theorem Grow.set (h : AH) (id : Nat) (b : ABlk) {wr : List Nat} (hm : id ∈ wr) : Grow h (h.set id b) wr := fun hl => ⟨Nat.le_refl _, AH.len_set hl id b, fun k hk hn => by
  by_cases hid : id < h.n
  · rw [AH.get_set h hl id hid, if_neg (fun hh => hn (by rw [hh]; exact hm))]
  · have : h.set id b = h := by
      unfold AH.set
      rw [if_neg (by simpa [Nat.blt_eq] using hid)]
    rw [this]⟩
theorem Grow.trans {a b c : AH} {wr : List Nat} (h : Grow a b wr) (k : Grow b c wr) : Grow a c wr := fun hl =>
  let ⟨h1, h2, h3⟩ := h hl
  let ⟨k1, k2, k3⟩ := k h2
  ⟨Nat.le_trans h1 k1, k2, fun id hid hn => (k3 id (Nat.lt_of_lt_of_le hid h1) hn).trans (h3 id hid hn)⟩

/-- the blocks that an operation looks at -/
def readsOf (ρ : Operand → Option Value) (op : Op) : List Nat :=
  match op with
  | .load _ a => match ρ a with
    | some (.pointer (some ⟨b, _, _⟩)) => [b]
    | _ => []
  | .call { callee := .builtin .len, args, .. } => match evalL ρ args.toList with
    | some [.map (some r)] => [r]
    | _ => []
  | .convert _ _ x => match ρ x with
    | some (.slice (some ⟨b, _, _⟩) _ _) => [b]
    | _ => []
  | .slice _ x _ _ _ => match ρ x with
    | some (.slice (some ⟨b, _, _⟩) _ _) => [b]
    | _ => []
  | .lookup _ x _ _ => match ρ x with
    | some (.map (some r)) => [r]
    | _ => []
  | _ => []

/-- the blocks that an operation turns -/
def writesOf (ρ : Operand → Option Value) (op : Op) : List Nat :=
  match op with
  | .store _ a _ => match ρ a with
    | some (.pointer (some ⟨b, _, _⟩)) => [b]
    | _ => []
  | .mapUpdate _ m _ _ => match ρ m with
    | some (.map (some r)) => [r]
    | _ => []
  | .next it _ => match ρ it with
    | some (.pointer (some ⟨b, _, _⟩)) => [b]
    | _ => []
  | .call { callee := .builtin .append, args, .. } => match evalL ρ args.toList with
    | some (.slice (some ⟨b, _, _⟩) _ _ :: _) => [b]
    | _ => []
  | .call { callee := .builtin .copy, args, .. } => match evalL ρ args.toList with
    | some (.slice (some ⟨b, _, _⟩) _ _ :: _) => [b]
    | _ => []
  | _ => []

section
variable {P : Program} {ρ : Operand → Option Value}

theorem readN_congr {h h2 : AH} {b i n : Nat} (hs : h2.get b = h.get b) : readN h2 b i n = readN h b i n := by
  unfold Ev.readN AH.cells; rw [hs]

theorem loadE_congr {h h2 : AH} {t : TypeId} {b i : Nat} {s : Option Nat} (hs : h2.get b = h.get b) : loadE P h2 t (.pointer (some ⟨b, i, s⟩)) = loadE P h t (.pointer (some ⟨b, i, s⟩)) := by
  cases s with
  | some _ => rfl
  | none =>
    unfold Ev.loadE AH.cells
    simp only [readN_congr hs, hs]

theorem sliceE_congr {h h2 : AH} {t : TypeId} {lo hi mx : Option Value} (y : Value) (hb : ∀ b i s n c, y = .slice (some ⟨b, i, s⟩) n c → eszE h2 b = eszE h b) : sliceE P h2 t y lo hi mx = sliceE P h t y lo hi mx := by
  unfold sliceE
  cases P.underlying t with
  | none => rfl
  | some d =>
    cases d <;> cases y <;> first
      | rfl
      | (rename_i n elem p
         cases p with
         | none => rfl
         | some a => obtain ⟨b, i, s⟩ := a; cases s <;> rfl)
      | (rename_i elem a n c
         cases a with
         | none => simp only []
         | some a => obtain ⟨b, i, s⟩ := a; have hh := hb b i s n c rfl; cases s <;> simp only [hh])

theorem lenE_congr {h h2 : AH} {ats : Array TypeId} (x : Value) (hb : ∀ r, x = .map (some r) → h2.get r = h.get r) : lenE P h2 ats x = lenE P h ats x := by
  unfold lenE
  cases ats[0]? with
  | none => rfl
  | some t =>
    simp only []
    cases P.underlying t with
    | none => rfl
    | some d =>
      cases d <;> cases x <;> first
        | rfl
        | (rename_i m
           cases m with
           | none => rfl
           | some r => simp only [hb r rfl])

theorem opE_reads {ty : TypeId} {op : Op} {h h2 : AH} {v : Value} (hl : lightOp P op = true) (e : opE P ρ ty op h = some (.value v, h)) (hs : ∀ id ∈ readsOf ρ op, h2.get id = h.get id) : opE P ρ ty op h2 = some (.value v, h2) := by
  obtain ⟨v', g1, _, g3⟩ := opE_light hl e
  cases g1
  cases hro : readsOp op with
  | false => exact g3 hro h2
  | true =>
    cases op <;> simp only [readsOp, Bool.false_eq_true] at hro
    case load t a =>
      simp only [opE] at e ⊢
      simp only [readsOf] at hs
      cases ha : ρ a with
      | none => rw [ha] at e; cases e
      | some p =>
        rw [ha] at e hs
        simp only [Option.map_eq_some_iff] at e ⊢
        obtain ⟨u, hu, hh⟩ := e
        cases hh
        have hp := hu
        unfold Ev.loadE at hp
        split at hp
        · rename_i b i
          exact ⟨_, by rw [loadE_congr (hs b (by simp))]; exact hu, rfl⟩
        · cases hp
    case convert src dst x =>
      simp only [opE] at e ⊢
      simp only [readsOf] at hs
      cases hx : ρ x with
      | none => rw [hx] at e; cases e
      | some y =>
        rw [hx] at e hs
        simp only [Option.map_eq_some_iff] at e ⊢
        obtain ⟨⟨u, h3⟩, hu, hh⟩ := e
        cases hh
        refine ⟨(_, h2), ?_, rfl⟩
        unfold convertE at hu ⊢
        split at hu
        · cases hu; simp_all
        · cases hu; simp_all
        · rename_i h1 h2'
          simp [lightOp, h1, h2'] at hl
        · rename_i e1 b i len cap h1 h2'
          split at hu
          · rename_i c1 c2 c3
            cases hu
            simp only [hs b (by simp), c1, c2, c3]
          · cases hu
        · rename_i e1 a len cap h1 h2'
          split at hu
          · rename_i h8
            split at hu
            · cases hu; simp [h8]
            · rename_i b i
              simp only [h8, readN_congr (hs b (by simp))]
              split at hu
              · rename_i l hl8
                simp only [Option.map_eq_some_iff] at hu
                obtain ⟨bs, hbs, hh⟩ := hu
                cases hh
                simp [hl8, hbs]
              · cases hu
            · cases hu
          · cases hu
        · cases hu
    case slice t x lo hi mx =>
      simp only [opE] at e ⊢
      simp only [readsOf] at hs
      cases hx : ρ x with
      | none => rw [hx] at e; simp at e
      | some y =>
        rw [hx] at e hs
        cases h1 : evalO ρ lo with
        | none => rw [h1] at e; simp at e
        | some vlo =>
          cases h3 : evalO ρ hi with
          | none => rw [h1, h3] at e; simp at e
          | some vhi =>
            cases h4 : evalO ρ mx with
            | none => rw [h1, h3, h4] at e; simp at e
            | some vmx =>
              rw [h1, h3, h4] at e
              simp only [Option.map_eq_some_iff] at e ⊢
              obtain ⟨u, hu, hh⟩ := e
              cases hh
              refine ⟨_, ?_, rfl⟩
              have key : sliceE P h2 t y vlo vhi vmx = sliceE P h t y vlo vhi vmx := by
                have hb : ∀ b i s n c, y = .slice (some ⟨b, i, s⟩) n c → eszE h2 b = eszE h b := by
                  intro b i s n c hy; subst hy; unfold eszE; rw [hs b (by simp)]
                exact sliceE_congr y hb
              rw [key]; exact hu
    case lookup t x ix ok =>
      simp only [opE] at e ⊢
      simp only [readsOf] at hs
      cases hx : ρ x with
      | none => rw [hx] at e; simp at e
      | some y =>
        rw [hx] at e hs
        cases h1 : ρ ix with
        | none => rw [h1] at e; simp at e
        | some k =>
          rw [h1] at e
          simp only [Option.map_eq_some_iff] at e ⊢
          obtain ⟨u, hu, hh⟩ := e
          cases hh
          refine ⟨v, ?_, rfl⟩
          have key : lookupE P h2 t y k ok = lookupE P h t y k ok := by
            unfold lookupE
            split
            · split
              · cases y with
                | map m => cases m with
                  | none => rfl
                  | some r => simp only [hs r (by simp)]
                | _ => rfl
              · rfl
            · rfl
          rw [key]; exact hu
    case call c =>
      obtain ⟨callee, args, ats⟩ := c
      cases callee with
      | value f => simp only [readsOp, Bool.false_eq_true] at hro
      | invoke r m => simp only [readsOp, Bool.false_eq_true] at hro
      | builtin b =>
        cases b <;> simp only [readsOp, Bool.false_eq_true] at hro
        simp only [readsOf] at hs
        simp only [opE, callE] at e ⊢
        split at e
        · cases e
        · rename_i l hargs
          rw [hargs] at hs
          rcases l with _ | ⟨x, _ | ⟨y, l⟩⟩ <;> simp [builtinE, Option.map_eq_some_iff] at e
          simp only [builtinE, Option.map_eq_some_iff]
          refine ⟨v, ?_, rfl⟩
          have key : lenE P h2 ats x = lenE P h ats x := by
            have hb : ∀ r, x = .map (some r) → h2.get r = h.get r := by
              intro r hx; subst hx; exact hs r (by simp)
            exact lenE_congr x hb
          rw [key]; exact e


theorem writeN_grow {h h' : AH} {b i : Nat} {l : List Value} {wr : List Nat} (e : writeN h b i l = some h') (hm : b ∈ wr) : Grow h h' wr := by
  unfold Ev.writeN at e
  split at e
  · split at e
    · cases e; exact Grow.set _ _ _ hm
    · cases e
  · cases e

theorem appTo_grow {h h' : AH} {size len cap n : Nat} {base : Option Addr} {news : List Value} {v : Value} {wr : List Nat} (e : appTo h size base len cap n news = some (v, h')) (hm : ∀ b i s, base = some ⟨b, i, s⟩ → b ∈ wr) : Grow h h' wr := by
  unfold appTo at e
  split at e
  · split at e
    · split at e
      · split at e
        · cases e; exact Grow.refl _ _
        · cases e
      · simp only [Option.map_eq_some_iff] at e
        obtain ⟨h1, hw, hh⟩ := e
        cases hh
        exact writeN_grow hw (hm _ _ _ rfl)
      · cases e
    · split at e
      · split at e
        · cases e; exact Grow.push _ _ _
        · cases e
      · simp only [Option.map_eq_some_iff] at e
        obtain ⟨h1, hw, hh⟩ := e
        cases hh
        exact Grow.push _ _ _
      · cases e
  · split at e
    · split at e
      · split at e
        · cases e; exact Grow.refl _ _
        · split at e
          · cases e
            exact (Grow.set _ _ _ (hm _ _ _ rfl)).trans (Grow.push _ _ _)
          · cases e
      · cases e
    · cases e

theorem opE_grow {ty : TypeId} {op : Op} {h h' : AH} {an : AN} (e : opE P ρ ty op h = some (an, h')) : Grow h h' (writesOf ρ op) := by
  cases op
  case store t a x =>
    simp only [opE] at e
    split at e
    · rename_i p v hp hv
      simp only [Option.map_eq_some_iff] at e
      obtain ⟨h1, hs, hh⟩ := e
      cases hh
      unfold storeE at hs
      split at hs
      · rename_i b i
        split at hs
        · split at hs
          · exact writeN_grow hs (by simp [writesOf, hp])
          · cases hs
        · cases hs
      · cases hs
    · cases e
  case mapUpdate t m k x =>
    simp only [opE] at e
    split at e
    · rename_i vm vk vx hm hk hx
      simp only [Option.map_eq_some_iff] at e
      obtain ⟨h1, hs, hh⟩ := e
      cases hh
      unfold mapUpdateE at hs
      split at hs
      · rename_i r _
        have hmem : r ∈ writesOf ρ (.mapUpdate t m k x) := by simp [writesOf, hm]
        split at hs
        · split at hs
          · split at hs
            · split at hs
              · split at hs
                · cases hs; exact Grow.set _ _ _ hmem
                · cases hs
              · cases hs
            · cases hs; exact Grow.set _ _ _ hmem
            · cases hs
          · cases hs
        · cases hs
      · cases hs
    · cases e
  case next it s =>
    simp only [opE] at e
    split at e
    · rename_i b hb
      split at e
      · split at e
        · cases e; exact Grow.set _ _ _ (by simp [writesOf, hb])
        · cases e; exact Grow.refl _ _
      · cases e
    · cases e
  case call c =>
    obtain ⟨callee, args, ats⟩ := c
    simp only [opE, callE] at e
    split at e
    · cases e
    · rename_i l hargs
      cases callee with
      | invoke r m => cases e
      | value f =>
        simp only at e
        split at e
        · cases e; exact Grow.refl _ _
        · cases e; exact Grow.refl _ _
        · cases e
      | builtin b =>
        simp only at e
        unfold builtinE at e
        split at e
        · simp only [Option.map_eq_some_iff] at e; obtain ⟨_, _, hh⟩ := e; cases hh; exact Grow.refl _ _
        · simp only [Option.map_eq_some_iff] at e; obtain ⟨_, _, hh⟩ := e; cases hh; exact Grow.refl _ _
        · rename_i s x
          simp only [Option.map_eq_some_iff] at e
          obtain ⟨⟨v, h1⟩, ha, hh⟩ := e
          cases hh
          unfold appendE at ha
          split at ha
          · cases ha
          · split at ha
            · split at ha
              · split at ha
                · split at ha
                  · split at ha
                    · exact appTo_grow ha (fun b i s hb => by subst hb; simp [writesOf, hargs])
                    · cases ha
                  · cases ha
                · cases ha
              · cases ha
            · cases ha
        · rename_i d s
          simp only [Option.map_eq_some_iff] at e
          obtain ⟨⟨v, h1⟩, ha, hh⟩ := e
          cases hh
          unfold copyE at ha
          split at ha
          · split at ha
            · split at ha
              · split at ha
                · split at ha
                  · cases ha; exact Grow.refl _ _
                  · simp only [Option.map_eq_some_iff] at ha
                    obtain ⟨h1, hw, hh⟩ := ha
                    cases hh
                    exact writeN_grow hw (by simp [writesOf, hargs])
                  · cases ha
                · cases ha
              · cases ha
            · cases ha
          · cases ha
        · simp only [Option.map_eq_some_iff] at e; obtain ⟨_, _, hh⟩ := e; cases hh; exact Grow.refl _ _
        · simp only [Option.map_eq_some_iff] at e; obtain ⟨_, _, hh⟩ := e; cases hh; exact Grow.refl _ _
        · simp only [Option.some.injEq, Prod.mk.injEq] at e
          obtain ⟨_, rfl⟩ := e
          exact Grow.refl _ _
        · cases e
  case convert src dst x =>
    simp only [opE] at e
    split at e
    · simp only [Option.map_eq_some_iff] at e
      obtain ⟨⟨u, h3⟩, hu, hh⟩ := e
      cases hh
      unfold convertE at hu
      split at hu
      · cases hu; exact Grow.refl _ _
      · cases hu; exact Grow.refl _ _
      · split at hu
        · cases hu; exact Grow.push _ _ _
        · cases hu
      · split at hu
        · cases hu; exact Grow.refl _ _
        · cases hu
      · split at hu
        · split at hu
          · cases hu; exact Grow.refl _ _
          · split at hu
            · simp only [Option.map_eq_some_iff] at hu
              obtain ⟨bs, hbs, hh⟩ := hu
              cases hh; exact Grow.refl _ _
            · cases hu
          · cases hu
        · cases hu
      · cases hu
    · cases e
  case buildSlice t n ps =>
    simp only [opE] at e
    split at e
    · simp only [Option.map_eq_some_iff] at e
      obtain ⟨⟨u, h3⟩, hu, hh⟩ := e
      cases hh
      unfold buildSliceE at hu
      (repeat' split at hu) <;> cases hu
      exact Grow.push _ _ _
    · cases e
  case makeSlice t l c =>
    simp only [opE] at e
    split at e
    · simp only [Option.map_eq_some_iff] at e
      obtain ⟨⟨u, h3⟩, hu, hh⟩ := e
      cases hh
      unfold makeSliceE at hu
      (repeat' split at hu) <;> cases hu
      exact Grow.push _ _ _
    · cases e
  case makeFunc fn first cap =>
    cases fn <;> simp only [opE] at e <;> (repeat' split at e) <;> simp at e
    obtain ⟨_, rfl⟩ := e
    exact Grow.refl _ _
  case makeMap t x =>
    cases x <;> simp only [opE] at e <;> simp at e
    obtain ⟨_, rfl⟩ := e
    exact Grow.push _ _ _
  all_goals
    simp only [opE] at e
    first
      | (cases e; done)
      | (simp only [Option.map_eq_some_iff] at e
         obtain ⟨_, _, hh⟩ := e
         cases hh
         first | exact Grow.refl _ _ | exact Grow.push _ _ _)
      | ((repeat' split at e) <;> first
          | (cases e; done)
          | (cases e; first | exact Grow.refl _ _ | exact Grow.push _ _ _)
          | (simp only [Option.map_eq_some_iff] at e
             obtain ⟨_, _, hh⟩ := e
             cases hh
             first | exact Grow.refl _ _ | exact Grow.push _ _ _))

end
end Go.Proofs.YtmcmaklilfgdiaaGreat.Ev
