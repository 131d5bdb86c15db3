/- Symbolic runs: a function's code, run over values that are told. -/
import Derived.Test.YtmcmaklilfgdiaaGreatSg
namespace Go.Proofs.YtmcmaklilfgdiaaGreat.Ev
open Go Go.RowKit

/-- one operation of a region that draws its order: the state ahead of it, what it reads, what it writes -/
structure Ent where
  a : AF
  h : AH
  rd : List Nat
  wr : List Nat

inductive It where
  | code (c : Code)
  | blk (id : Nat)
  | lp (body : Code)
  | reg (ops : Array Oper) (rest : List Nat)
  | drw (ops : Array Oper) (ord rest : List Nat) (es : List Ent)

def It.item : It → Item
  | .code c => .code c
  | .blk id => .inBlock id
  | .lp b => .inLoop b
  | .reg ops rest => .inRegion ops rest
  | .drw ops _ rest _ => .inRegion ops rest

def It.still : It → Bool
  | .drw .. => false
  | _ => true

def exitS (id : Nat) : List It → Option (List It)
  | [] => none
  | .blk id' :: k => if Nat.beq id' id then some k else exitS id k
  | .drw .. :: _ => none
  | _ :: k => exitS id k

/-- the first blocks of a memory -/
def firstB (h : AH) : Nat → List ABlk
  | 0 => []
  | m + 1 => firstB h m ++ [(h.get m).getD .dead]

/-- from here on the function comes to what Q says -/
def RunI (P : Program) (w0 : Bs) (m : Nat) (its : List It) (a : AF) (h : AH) (Q : Value → List ABlk → Prop) : Prop :=
  ∀ (σ : Sg) (w : World) (b : Frame) (t : Array Value) (cs : List Frame), R w0 σ h w → FR σ a b t [] → CsOk b cs →
    ∃ v h' σ' w' v' fr, Q v (firstB h' m) ∧ R w0 σ' h' w' ∧ ((∀ (b i : Nat) (u : Value), σ.kp b i = some u → σ'.kp b i = some u) ∧ ∀ (j : Nat) (p : Pl), j < m → pl σ j = some p → pl σ' j = some p) ∧ VR σ' v v' ∧
      Steps P (lone (mk b t [] (its.map It.item)) cs w) (lone fr cs w') ∧ fr.mode = .returning ∧ fr.defers = [] ∧ fr.kind = b.kind ∧ fr.fn = b.fn ∧
      ∃ fn, P.funcs[fr.fn]? = some fn ∧ (results fn fr.tmps).run P w' = .ok v' w'

def mergeJ (live : List Tmp) (J : Nat → Value) : Nat → List Value → List Value
  | _, [] => []
  | i, v :: l => (if live.contains i then v else J i) :: mergeJ live J (i + 1) l

/-- from a loop's head on, whatever the slots hold that are not read -/
structure LoopG (P : Program) (gs : List ABlk) (m : Nat) (live : List Tmp) (its : List It) (a : AF) (h : AH) (Q : Value → List ABlk → Prop) : Prop where
  run : ∀ (J : Nat → Value) (w0 : Bs), (∀ U, G0 gs (w0.at U)) → (∀ id, ¬ w0.un id) → RunI P w0 m its { a with tmps := mergeJ live J 0 a.tmps } h Q

def headId : Code → Nat
  | .region id _ _ => id
  | .seq x _ => headId x
  | .block _ b => headId b
  | .loop b => headId b
  | .cond _ x _ => headId x
  | _ => 0

def plainS (P : Program) (o : Oper) (a : AF) (h : AH) (K : Value → AH → List Nat → List Nat → Prop) : Prop :=
  match opE P a.eval o.type o.op h with
  | some (.value v, h') => K v h' (readsOf a.eval o.op) (writesOf a.eval o.op)
  | some (.skip, h') => K undef h' (readsOf a.eval o.op) (writesOf a.eval o.op)
  | _ => False

def bodyOk (P : Program) (g : FuncId) : Bool :=
  match P.funcs[g]? with
  | some fn => fn.body.isSome
  | none => false

def lenS (P : Program) (o : Oper) (a : AF) (h : AH) (c : Call) (vx : Value) (K : Value → AH → List Nat → List Nat → Prop) : Prop :=
  match lookL h vx with
  | some (_, n, _, rd) => match c.argTypes[0]? with
    | some t => match P.underlying t with
      | some (.slice _) => K (goInt n) h rd []
      | _ => False
    | none => False
  | none => plainS P o a h K

def callS (T : Tab) (P : Program) (gs : List ABlk) (o : Oper) (a : AF) (h : AH) (c : Call) (K : Value → AH → List Nat → List Nat → Prop) : Prop :=
  match c.callee with
  | .builtin .len => match evalL a.eval c.args.toList with
    | some [vx] => lenS P o a h c vx K
    | _ => False
  | .builtin .append => match evalL a.eval c.args.toList with
    | some [vs, vx] => match appendS P h c.argTypes vs vx with
      | some (tot, v, h', wr) => bif Nat.ble tot 1048576 then K v h' [] wr else False
      | none => False
    | _ => False
  | .value _ => match callE P a.eval c h with
    | some (.enter g as, _) => match T.con g with
      | some V => bif (as.map (snapV h)).all cvV && bodyOk P g then ∃ y : V.γ, K1 P gs g (as.map (snapV h)) (V.enc y) ∧ K (V.opn y) h [] [] else False
      | none => False
    | _ => False
  | _ => plainS P o a h K

def indexS (T : Tab) (P : Program) (h : AH) (t : TypeId) (vx vi : Value) (K : Value → AH → List Nat → List Nat → Prop) (other : Prop) : Prop :=
  match lookL h vx, vi with
  | some (sz, n, es, rd), .int _ i => match P.underlying t with
    | some (.slice e) => match sizeE P e, T.elem t with
      | some s, some V => bif Nat.beq s sz then bif decide (0 ≤ i) && decide (i < (n : Int)) then ∃ x : V.γ, es[i.toNat]? = some (V.enc x) ∧ K (cptrV (cellsL (V.opn x))) h rd [] else False else False
      | _, _ => False
    | _ => False
  | _, _ => other

def loadS (P : Program) (h : AH) (t : TypeId) (cells : List Value) (K : Value → AH → List Nat → List Nat → Prop) : Prop :=
  match isAggE P t with
  | some true => match sizeE P t with
    | some n => bif Nat.ble n cells.length then K (.agg ⟨cells.take n⟩) h [] [] else False
    | none => False
  | some false => match cells with
    | u :: _ => K u h [] []
    | [] => False
  | none => False

def fieldS (P : Program) (h : AH) (s : TypeId) (cells : List Value) (f : Nat) (K : Value → AH → List Nat → List Nat → Prop) : Prop :=
  match P.underlying s with
  | some (.struct fields) => match fields[f]? with
    | some fd => match sizeE P fd.type with
      | some (_ + 1) => K (cptrV (cells.drop fd.offset)) h [] []
      | _ => False
    | none => False
  | _ => False

def convS (P : Program) (o : Oper) (a : AF) (h : AH) (src dst : TypeId) (vx : Value) (K : Value → AH → List Nat → List Nat → Prop) : Prop :=
  match lookL h vx with
  | some (sz, _, es, rd) => match P.underlying src, P.underlying dst with
    | some (.slice el), some .string => match P.underlying el with
      | some (.int .u8) => bif Nat.beq sz 1 then ∃ bs : ByteArray, bytesOf es = some bs.data.toList ∧ K (.string bs) h rd [] else False
      | _ => False
    | _, _ => False
  | none => plainS P o a h K

def eqS (P : Program) (o : Oper) (a : AF) (h : AH) (op : BinOp) (t : TypeId) (vx vy : Value) (K : Value → AH → List Nat → List Nat → Prop) : Prop :=
  match vx, vy with
  | .agg ⟨xs⟩, .agg ⟨ys⟩ => match structS P t xs ys with
    | some c => match op with
      | .eql => bif (P.underlying t).isSome then K (.bool c) h [] [] else False
      | .neq => bif (P.underlying t).isSome then K (.bool (!c)) h [] [] else False
      | _ => False
    | none => False
  | _, _ => plainS P o a h K

/-- one operation, and what follows -/
def opS (T : Tab) (P : Program) (gs : List ABlk) (o : Oper) (a : AF) (h : AH) (K : Value → AH → List Nat → List Nat → Prop) : Prop :=
  match o.op with
  | .call c => callS T P gs o a h c K
  | .indexAddr t x ix => match a.eval x, a.eval ix with
    | some vx, some vi => indexS T P h t vx vi K (plainS P o a h K)
    | _, _ => False
  | .load t p => match a.eval p with
    | some (.func (.yield 0) ⟨cells⟩ ⟨[.bool true]⟩) => loadS P h t cells K
    | _ => plainS P o a h K
  | .fieldAddr s x f => match a.eval x with
    | some (.func (.yield 0) ⟨cells⟩ ⟨[.bool true]⟩) => fieldS P h s cells f K
    | _ => plainS P o a h K
  | .convert src dst x => match a.eval x with
    | some vx => convS P o a h src dst vx K
    | none => False
  | .binOp op t x y _ => match a.eval x, a.eval y with
    | some vx, some vy => eqS P o a h op t vx vy K
    | _, _ => False
  | .pick c x y => match a.eval c, a.eval x, a.eval y with
    | some (.bool b), some vx, some vy => bif b then K vx h [] [] else K vy h [] []
    | _, _, _ => False
  | _ => plainS P o a h K

section
variable {T : Tab} {P : Program} {gs : List ABlk} {w0 : Bs} {o : Oper} {a : AF} {h : AH} {K : Value → AH → List Nat → List Nat → Prop}

/-- good for a run, and on -/
def Good (P : Program) (w0 : Bs) (o : Oper) (a : AF) (h : AH) (K : Value → AH → List Nat → List Nat → Prop) : Prop := ∃ v h' rd wr, SOp P w0 o a h v h' rd wr ∧ K v h' rd wr

theorem plainS_ok (hN : noGo P) (e : plainS P o a h K) : Good P w0 o a h K := by
  unfold plainS at e
  split at e
  · rename_i v h' hop; exact ⟨v, h', _, _, sop_value hN hop, e⟩
  · rename_i h' hop; exact ⟨undef, h', _, _, sop_skip hN hop, e⟩
  · exact e.elim

theorem callE_enter {ρ : Operand → Option Value} {c : Call} {g : FuncId} {as : List Value} {h1 : AH} (e : callE P ρ c h = some (.enter g as, h1)) : h1 = h := by
  unfold callE at e
  split at e
  · cases e
  · split at e
    · unfold builtinE at e
      split at e <;> simp [Option.map_eq_some_iff] at e
    · split at e
      · cases e; rfl
      · cases e
      · cases e
    · cases e

theorem opS_ok (hN : noGo P) (g0 : ∀ U, G0 gs (w0.at U)) (e : opS T P gs o a h K) : Good P w0 o a h K := by
  unfold opS at e
  split at e
  · rename_i c hop
    unfold callS at e
    split at e
    · rename_i hb
      split at e
      · rename_i vx hv
        unfold lenS at e
        split at e
        · rename_i sz n es rd hl
          split at e
          · rename_i t ht
            split at e
            · rename_i el hd
              exact ⟨_, _, _, _, sop_len hop hb ht hd hv hl, e⟩
            · exact e.elim
          · exact e.elim
        · exact plainS_ok hN e
      · exact e.elim
    · rename_i hb
      split at e
      · rename_i vs vx hv
        split at e
        · rename_i tot v h' wr ha
          cases hle : Nat.ble tot 1048576 with
          | true => rw [hle] at e; exact ⟨_, _, _, _, sop_append hop hb hv ha (Nat.le_of_ble_eq_true hle), e⟩
          | false => rw [hle] at e; exact e.elim
        · exact e.elim
      · exact e.elim
    · rename_i f hb
      split at e
      · rename_i g as h1 hc
        have := callE_enter hc
        subst this
        split at e
        · rename_i V hV
          cases hcl : (as.map (snapV h1)).all cvV && bodyOk P g with
          | true =>
            rw [hcl] at e
            obtain ⟨y, k, e⟩ := e
            simp only [Bool.and_eq_true] at hcl
            rw [V.ok] at k
            refine ⟨_, _, _, _, sop_call hN g0 hop hc hcl.1 k ?_, e⟩
            have hb2 := hcl.2
            unfold bodyOk at hb2
            split at hb2
            · rename_i fn hfn; exact ⟨fn, hfn, hb2⟩
            · cases hb2
          | false => rw [hcl] at e; exact e.elim
        · exact e.elim
      · exact e.elim
    · exact plainS_ok hN e
  · rename_i t x ix hop
    split at e
    · rename_i vx vi hx hi
      unfold indexS at e
      split at e
      · rename_i sz n es rd k i hl
        split at e
        · rename_i el hd
          split at e
          · rename_i s V hsz hV
            cases hs : Nat.beq s sz with
            | true =>
              rw [hs] at e
              simp only [Nat.beq_eq] at hs
              subst hs
              cases hi2 : decide (0 ≤ i) && decide (i < (n : Int)) with
              | true =>
                rw [hi2] at e
                simp only [Bool.and_eq_true, decide_eq_true_eq] at hi2
                obtain ⟨y, hy, e⟩ := e
                rw [V.ok] at hy
                exact ⟨_, _, _, _, sop_index hop hd hsz hx hi hl hi2.1 hi2.2 hy, e⟩
              | false => rw [hi2] at e; exact e.elim
            | false => rw [hs] at e; exact e.elim
          · exact e.elim
        · exact e.elim
      · exact plainS_ok hN e
    · exact e.elim
  · rename_i t p hop
    split at e
    · rename_i cells hp
      unfold loadS at e
      split at e
      · rename_i hagg
        split at e
        · rename_i n hn
          cases hle : Nat.ble n cells.length with
          | true => rw [hle] at e; exact ⟨_, _, _, _, sop_load hop hp (.inl ⟨hagg, n, hn, Nat.le_of_ble_eq_true hle, rfl⟩), e⟩
          | false => rw [hle] at e; exact e.elim
        · exact e.elim
      · rename_i hagg
        split at e
        · rename_i u r; exact ⟨_, _, _, _, sop_load hop hp (.inr ⟨hagg, r, rfl⟩), e⟩
        · exact e.elim
      · exact e.elim
    · exact plainS_ok hN e
  · rename_i s x f hop
    split at e
    · rename_i cells hx
      unfold fieldS at e
      split at e
      · rename_i fields hd
        split at e
        · rename_i fd hf
          split at e
          · rename_i m hn; exact ⟨_, _, _, _, sop_field hop hx hd hf hn, e⟩
          · exact e.elim
        · exact e.elim
      · exact e.elim
    · exact plainS_ok hN e
  · rename_i src dst x hop
    split at e
    · rename_i vx hx
      unfold convS at e
      split at e
      · rename_i sz n es rd hl
        split at e
        · rename_i el hs hd
          split at e
          · rename_i hel
            cases h1 : Nat.beq sz 1 with
            | true =>
              rw [h1] at e
              simp only [Nat.beq_eq] at h1
              subst h1
              obtain ⟨bs, hb, e⟩ := e
              exact ⟨_, _, _, _, sop_conv hop hs hel hd hx hl hb, e⟩
            | false => rw [h1] at e; exact e.elim
          · exact e.elim
        · exact e.elim
      · exact plainS_ok hN e
    · exact e.elim
  · rename_i op t x y u hop
    split at e
    · rename_i vx vy hx hy
      unfold eqS at e
      split at e
      · rename_i xs ys
        split at e
        · rename_i c hc
          split at e
          · cases h1 : (P.underlying t).isSome with
            | true => rw [h1] at e; exact ⟨_, _, _, _, sop_struct hN hop h1 hx hy hc (.inl ⟨rfl, rfl⟩), e⟩
            | false => rw [h1] at e; exact e.elim
          · cases h1 : (P.underlying t).isSome with
            | true => rw [h1] at e; exact ⟨_, _, _, _, sop_struct hN hop h1 hx hy hc (.inr ⟨rfl, rfl⟩), e⟩
            | false => rw [h1] at e; exact e.elim
          · exact e.elim
        · exact e.elim
      · exact plainS_ok hN e
    · exact e.elim
  · rename_i c x y hop
    split at e
    · rename_i b vx vy hc hx hy
      have r1 : readsOf a.eval o.op = [] := by rw [hop]; rfl
      have r2 : writesOf a.eval o.op = [] := by rw [hop]; rfl
      cases b with
      | true =>
        have := sop_value (P := P) (w0 := w0) (o := o) (a := a) (h := h) (h' := h) (v := vx) hN (by rw [hop]; simp only [opE, hc, hx, hy, if_true])
        rw [r1, r2] at this
        exact ⟨_, _, _, _, this, e⟩
      | false =>
        have := sop_value (P := P) (w0 := w0) (o := o) (a := a) (h := h) (h' := h) (v := vy) hN (by rw [hop]; simp only [opE, hc, hx, hy, Bool.false_eq_true, if_false])
        rw [r1, r2] at this
        exact ⟨_, _, _, _, this, e⟩
    · exact e.elim
  · exact plainS_ok hN e

end
end Go.Proofs.YtmcmaklilfgdiaaGreat.Ev
