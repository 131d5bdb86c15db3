/- Symbolic runs: the operations on lists that are known. -/
import Derived.Test.YtmcmaklilfgdiaaGreatSe
namespace Go.Proofs.YtmcmaklilfgdiaaGreat.Ev
open Go Go.RowKit

/-- how the values of a type are told -/
structure View where
  γ : Type
  enc : γ → Value
  opn : γ → Value
  ok : ∀ x, enc x = opn x

/-- what a run is told: by a slice's type its elements; by a function's number how its results are told, where it is taken by what it answers -/
structure Tab where
  elem : TypeId → Option View
  con : FuncId → Option View
  live : FuncId → Nat → List Tmp
  own : FuncId → Nat → List (Tmp × Nat)
  /-- how many blocks are told at the end -/
  m : Nat

/-- two values without addresses, told of each part at once -/
def eqFsS (P : Program) (f : TypeId → Value → Value → Option Bool) (xs ys : List Value) : List Field → Option Bool
  | [] => some true
  | d :: r =>
    if d.name ≠ "_" then
      match partE P d.type xs d.offset, partE P d.type ys d.offset with
      | some a, some b => match f d.type a b with
        | some c => match eqFsS P f xs ys r with
          | some c' => some (c && c')
          | none => none
        | none => none
      | _, _ => none
    else eqFsS P f xs ys r
def eqVS (P : Program) : Nat → TypeId → Value → Value → Option Bool
  | 0, _, _, _ => none
  | d + 1, t, x, y =>
    match P.underlying t, x, y with
    | some .bool, .bool a, .bool b => some (a == b)
    | some (.int _), .int k a, .int k' b => if k = k' then some (a == b) else none
    | some .string, .string a, .string b => some (a == b)
    | some (.struct fields), .agg ⟨xs⟩, .agg ⟨ys⟩ => if P.stoodInHeld t then none else eqFsS P (eqVS P d) xs ys fields.toList
    | _, _, _ => none
def structS (P : Program) (t : TypeId) (xs ys : List Value) : Option Bool :=
  if xs.all scalarV && ys.all scalarV && !(P.eqGuardType P.depth t) then eqVS P 100 t (.agg ⟨xs⟩) (.agg ⟨ys⟩) else none

theorem eqFsS_eq {P : Program} {f f' : TypeId → Value → Value → Option Bool} (hf : ∀ t a b c, f t a b = some c → f' t a b = some c) {xs ys : List Value} : ∀ (fs : List Field) {c : Bool}, eqFsS P f xs ys fs = some c → eqFs P f' xs ys fs = some c
  | [], c, e => e
  | d :: r, c, e => by
    unfold eqFsS at e
    unfold eqFs
    split at e
    · rename_i hn
      rw [if_pos hn]
      split at e
      · rename_i a b h1 h2
        split at e
        · rename_i c1 hc
          rw [h1, h2]
          simp only [hf _ _ _ _ hc]
          split at e
          · rename_i c2 hc2
            cases e
            have ih := eqFsS_eq hf r hc2
            cases c1 with
            | true => simpa using ih
            | false => rfl
          · cases e
        · cases e
      · cases e
    · rename_i hn
      rw [if_neg hn]
      exact eqFsS_eq hf r e
theorem eqVS_eq {P : Program} : ∀ (d : Nat) (t : TypeId) (x y : Value) (c : Bool), eqVS P d t x y = some c → eqVE P d t x y = some c
  | 0, _, _, _, _, e => by cases e
  | d + 1, t, x, y, c, e => by
    unfold eqVS at e
    unfold eqVE
    split at e
    · rename_i h1; simp only [h1]; exact e
    · rename_i h1; simp only [h1]; exact e
    · rename_i h1; simp only [h1]; exact e
    · rename_i fields xs ys h1
      simp only [h1]
      split at e
      · cases e
      · rename_i hh
        rw [if_neg hh]
        exact eqFsS_eq (eqVS_eq d) _ e
    · cases e
theorem structS_eq {P : Program} {t : TypeId} {xs ys : List Value} {c : Bool} (e : structS P t xs ys = some c) : structE P t (.agg ⟨xs⟩) (.agg ⟨ys⟩) = some c := by
  unfold structS at e
  unfold structE
  split at e
  · rename_i hh
    simp only [hh, if_true]
    exact eqVS_eq _ _ _ _ _ e
  · cases e

section
variable {P : Program} {σ : Sg} {w0 : Bs} {h : AH} {w : World} {o : Oper} {a : AF} {v : Value}

theorem sop_struct (hN : noGo P) {op : BinOp} {t u : TypeId} {x y : Operand} {xs ys : List Value} {c : Bool} (hop : o.op = .binOp op t x y u) (hd : (P.underlying t).isSome = true) (hx : a.eval x = some (.agg ⟨xs⟩)) (hy : a.eval y = some (.agg ⟨ys⟩))
    (e : structS P t xs ys = some c) (hv : (op = .eql ∧ v = .bool c) ∨ (op = .neq ∧ v = .bool (!c))) : SOp P w0 o a h v h [] [] := by
  have he := structS_eq e
  obtain ⟨d, hd⟩ := Option.isSome_iff_exists.1 hd
  have hk : kindOK d (.agg ⟨xs⟩) = false := by cases d <;> rfl
  have hb : binE P op t (.agg ⟨xs⟩) (.agg ⟨ys⟩) = some v := by
    rcases hv with ⟨rfl, rfl⟩ | ⟨rfl, rfl⟩
    · simp only [binE, hd, hk, Bool.false_eq_true, if_false, he, Option.map_some]
    · simp only [binE, hd, hk, Bool.false_eq_true, if_false, he, Option.map_some]
  have := sop_value (P := P) (w0 := w0) (o := o) (a := a) (h := h) (h' := h) (v := v) hN (by rw [hop]; simp only [opE, hx, hy, hb, Option.map_some])
  have e1 : readsOf a.eval o.op = [] := by rw [hop]; rfl
  have e2 : writesOf a.eval o.op = [] := by rw [hop]; rfl
  rw [e1, e2] at this
  exact this

theorem sop_conv {src dst el : TypeId} {x : Operand} {vx : Value} {n : Nat} {es : List Value} {rd : List Nat} {bs : ByteArray} (hop : o.op = .convert src dst x) (hs : P.underlying src = some (.slice el)) (hel : P.underlying el = some (.int .u8)) (hd : P.underlying dst = some .string)
    (hx : a.eval x = some vx) (hl : lookL h vx = some (1, n, es, rd)) (hb : bytesOf es = some bs.data.toList) : SOp P w0 o a h (.string bs) h rd [] := by
  refine sop_pure (by rw [hop]; nofun) (by rw [hop]; rfl) fun h2 hs2 a2 ha σ w ρ' U r hρ => ?_
  have e1 : a2.eval x = some vx := by rw [ha x (by rw [hop]; simp [Op.operands])]; exact hx
  have hv := hρ _ _ e1
  have hc := lookL_CR r (lookL_congr hl hs2) hv
  obtain ⟨dst', op, ty, pos, after, guard⟩ := o
  simp only at hop
  subst hop
  generalize hz : ρ' x = z at hc
  have flat1 : ∀ {es : List Value} {bs : List UInt8}, bytesOf es = some bs → es.flatMap cellsL = es := by
    intro es
    induction es with
    | nil => intro _ _; rfl
    | cons v es ih =>
      intro bs hb
      unfold bytesOf at hb
      split at hb
      · rename_i hh; cases hh
      · rename_i m l hh
        cases hh
        simp only [Option.map_eq_some_iff] at hb
        obtain ⟨bs', hbs, _⟩ := hb
        rw [List.flatMap_cons, ih hbs]; rfl
      · cases hb
  refine ⟨.string bs, ?_, .string _⟩
  simp only [execOp, hz]
  refine v_run ?_
  cases hc with
  | lst hn hw hcs hk hcap =>
    rename_i es' b i c
    rw [flat1 hb] at hcs
    obtain ⟨ns, h1, h2⟩ := bytes_of (CRs.toVRs (σ := σ) hcs) hb
    have hrun : (loadCells ⟨b, i, none⟩ n).run P w = .ok ⟨es'⟩ w := by
      have := load_take (P := P) w ⟨b, i, none⟩ es' n (by rw [← hcs.length, hn]; exact Nat.le_refl _) (fun j y hj => by rw [Addr.add_eq]; exact r.keep _ _ _ (hk j y hj))
      rwa [List.take_of_length_le (by rw [← hcs.length, hn]; exact Nat.le_refl _)] at this
    have := run_bytesToString (P := P) w ⟨b, i, none⟩ n c ns (by rw [hrun, h1])
    rw [run_convert_bytes_string w src dst el _ n c hs hel hd, this, push_all]
    have hbb : bs = ⟨bs.data.toList.toArray⟩ := by simp
    rw [hbb, h2]
    simp
  | lst0 a' c hac =>
    have hnil : bs = ⟨#[]⟩ := by
      have : bs.data.toList = [] := by simp only [bytesOf, Option.some.injEq] at hb; exact hb.symm
      have hbb : bs = ⟨bs.data.toList.toArray⟩ := by simp
      rw [hbb, this]
    subst hnil
    cases a' with
    | none =>
      have h0 := hac rfl
      subst h0
      simp only [convert, Sem.run_bind, run_underlying' hs, run_underlying' hd, run_underlying' hel, Result.andThen_ok]
      rfl
    | some x' =>
      have := run_bytesToString (P := P) w x' 0 c [] (by simp [loadCells, loadCellsFrom])
      rw [run_convert_bytes_string w src dst el _ 0 c hs hel hd, this]
      rfl

theorem run_builtin {ρ' : Operand → Value} {c : Call} {b : Builtin} {nx : Next} {w' : World} (hop : o.op = .call c) (hb : c.callee = .builtin b)
    (hh : (builtin b c.argTypes o.type (c.args.map fun | .const _ => true | _ => false) (c.args.map ρ')).run P w = .ok nx w') : (execOp ρ' o).run P w = .ok nx w' := by
  obtain ⟨dst, op, ty, pos, after, guard⟩ := o
  simp only at hop
  subst hop
  simp only [execOp, resolve, hb, Sem.run_bind, Sem.run_pure, Result.andThen_ok, invoke]
  exact hh

theorem evalL_alike {a2 : AF} {c : Call} (hop : o.op = .call c) (hx : ∀ x ∈ o.op.operands, a2.eval x = a.eval x) : evalL a2.eval c.args.toList = evalL a.eval c.args.toList :=
  evalL_congr fun y hy => hx y (by rw [hop]; simp only [Op.operands, Call.operands, Array.mem_append]; exact .inr (by simpa using hy))

theorem sop_len {c : Call} {t e : TypeId} {vx : Value} {sz n : Nat} {es : List Value} {rd : List Nat} (hop : o.op = .call c) (hb : c.callee = .builtin .len) (ht : c.argTypes[0]? = some t) (hd : P.underlying t = some (.slice e))
    (hv : evalL a.eval c.args.toList = some [vx]) (hl : lookL h vx = some (sz, n, es, rd)) : SOp P w0 o a h (goInt n) h rd [] := by
  refine sop_pure (by rw [hop]; nofun) (by rw [hop]; rfl) fun h2 hs a2 hx σ w ρ' U r hρ => ?_
  rw [← evalL_alike hop hx] at hv
  have hvv := evalL_sound hρ hv
  obtain ⟨x', hx', hr⟩ := list1 hvv
  have ha : c.args.map ρ' = #[x'] := by apply Array.ext'; rw [← hx']; simp
  have hc := lookL_CR r (lookL_congr hl hs) hr
  refine ⟨goInt n, run_builtin hop hb ?_, .int _ _⟩
  rw [ha]
  refine v_run ?_
  cases hc <;> simp [Builtin.len_, ht, run_underlying' hd]

theorem sop_index {t e : TypeId} {x ix : Operand} {vx : Value} {k : IntKind} {i : Int} {sz n : Nat} {es : List Value} {rd : List Nat} {u : Value} (hop : o.op = .indexAddr t x ix) (hd : P.underlying t = some (.slice e)) (hsz : sizeE P e = some sz)
    (hx : a.eval x = some vx) (hi : a.eval ix = some (.int k i)) (hl : lookL h vx = some (sz, n, es, rd)) (h0 : 0 ≤ i) (h1 : i < (n : Int)) (hu : es[i.toNat]? = some u) : SOp P w0 o a h (cptrV (cellsL u)) h rd [] := by
  refine sop_pure (by rw [hop]; nofun) (by rw [hop]; rfl) fun h2 hs a2 ha σ w ρ' U r hρ => ?_
  have e1 : a2.eval x = some vx := by rw [ha x (by rw [hop]; simp [Op.operands])]; exact hx
  have e2 : a2.eval ix = some (.int k i) := by rw [ha ix (by rw [hop]; simp [Op.operands])]; exact hi
  have hv := hρ _ _ e1
  have hiv := hρ _ _ e2
  have hix : ρ' ix = .int k i := by generalize ρ' ix = z at hiv; cases hiv; rfl
  have hc := lookL_CR r (lookL_congr hl hs) hv
  generalize hz : ρ' x = z at hc
  cases hc with
  | lst hn hw hcs hk hcap =>
    rename_i es' b j c
    have hlt : i.toNat < es.length := (List.getElem?_eq_some_iff.1 hu).1
    -- where the element lies
    have split : ∃ pre post, es = pre ++ u :: post ∧ pre.length = i.toNat := by
      refine ⟨es.take i.toNat, es.drop (i.toNat + 1), ?_, by simp; omega⟩
      obtain ⟨_, hg⟩ := List.getElem?_eq_some_iff.1 hu
      rw [← hg, List.getElem_cons_drop, List.take_append_drop]
    obtain ⟨pre, post, rfl, hpl⟩ := split
    have hpre : ∀ e ∈ pre, wfE sz e := fun e he => hw e (by simp [he])
    have hfl : (pre.flatMap cellsL).length = i.toNat * sz := by rw [flat_len hpre, hpl]
    have hcut : ∃ l1 l2 l3, es' = l1 ++ l2 ++ l3 ∧ l1.length = i.toNat * sz ∧ CRs σ.kp (cellsL u) l2 := by
      rw [List.flatMap_append, List.flatMap_cons] at hcs
      have cut : ∀ {l m : List Value} {l' : List Value}, CRs σ.kp (l ++ m) l' → ∃ a b, l' = a ++ b ∧ CRs σ.kp l a ∧ CRs σ.kp m b := by
        intro l
        induction l with
        | nil => intro m l' hh; exact ⟨[], l', rfl, .nil, hh⟩
        | cons y l ih =>
          intro m l' hh
          cases hh with
          | cons h1 h2 =>
            obtain ⟨a, b, rfl, g1, g2⟩ := ih h2
            exact ⟨_ :: a, b, rfl, .cons h1 g1, g2⟩
      obtain ⟨a1, b1, rfl, g1, g2⟩ := cut hcs
      obtain ⟨a2, b2, rfl, g3, g4⟩ := cut g2
      exact ⟨a1, a2, b2, by simp, by rw [← g1.length, hfl], g3⟩
    obtain ⟨l1, l2, l3, rfl, hl1, hl2⟩ := hcut
    refine ⟨.pointer (some ⟨b, j + i.toNat * sz, none⟩), ?_, .cptr hl2 fun m y hm => ?_⟩
    · obtain ⟨dst, op, ty, pos, after, guard⟩ := o
      simp only at hop
      subst hop
      have hrun : (Instr.indexAt t (.slice (some ⟨b, j, none⟩) n c) (.int k i)).run P w = .ok (.pointer (some ⟨b, j + i.toNat * sz, none⟩)) w := by
        simp [Instr.indexAt, asIntOf, run_underlying' hd, Instr.sureAddr, h0, h1, run_sizeOf' hsz, Addr.add_eq]
      simp only [execOp, hz, hix]
      exact v_run hrun
    · have := (List.getElem?_eq_some_iff.1 hm).1
      have := hk (l1.length + m) y (by rw [List.append_assoc, List.getElem?_append_right (by omega), List.getElem?_append_left (by omega)]; simpa using hm)
      rw [hl1] at this
      rw [Nat.add_assoc]; exact this
  | lst0 a' c hac => simp at hu

theorem sop_load {t : TypeId} {p : Operand} {cells : List Value} (hop : o.op = .load t p) (hp : a.eval p = some (cptrV cells))
    (hv : (isAggE P t = some true ∧ ∃ n, sizeE P t = some n ∧ n ≤ cells.length ∧ v = .agg ⟨cells.take n⟩) ∨ (isAggE P t = some false ∧ ∃ r, cells = v :: r)) : SOp P w0 o a h v h [] [] := by
  refine sop_pure (by rw [hop]; nofun) (by rw [hop]; rfl) fun h2 hs a2 ha σ w ρ' U r hρ => ?_
  have e1 : a2.eval p = some (cptrV cells) := by rw [ha p (by rw [hop]; simp [Op.operands])]; exact hp
  have hpv := hρ _ _ e1
  generalize hz : ρ' p = z at hpv
  obtain ⟨dst, op, ty, pos, after, guard⟩ := o
  simp only at hop
  subst hop
  cases hpv with
  | cptr hcs hk =>
    rename_i cells' b i
    have hcell : ∀ j y, cells'[j]? = some y → w.cell? ((⟨b, i, none⟩ : Addr).add j) = some y := fun j y hj => by rw [Addr.add_eq]; exact r.keep _ _ _ (hk j y hj)
    rcases hv with ⟨hagg, n, hn, hle, rfl⟩ | ⟨hagg, rest, rfl⟩
    · have hl := load_take (P := P) w ⟨b, i, none⟩ cells' n (by rw [← hcs.length]; exact hle) hcell
      refine ⟨.agg ⟨cells'.take n⟩, ?_, .agg ((CRs.toVRs hcs).take n)⟩
      simp only [execOp, hz]
      exact v_run (by simp [Instr.loadAt, Instr.sureAddr, loadVar, run_isAgg' hagg, run_sizeOf' hn, hl])
    · cases hcs with
      | cons h1 h2 =>
        rename_i y l'
        have hc0 := hcell 0 y rfl
        rw [Addr.add_eq, Nat.add_zero] at hc0
        refine ⟨y, ?_, CR.toVR h1⟩
        simp only [execOp, hz]
        exact v_run (by simp [Instr.loadAt, Instr.sureAddr, loadVar, run_isAgg' hagg, hc0])

theorem sop_field {s : TypeId} {x : Operand} {f : Nat} {cells : List Value} {fields : Array Field} {fd : Field} {m : Nat} (hop : o.op = .fieldAddr s x f) (hx : a.eval x = some (cptrV cells)) (hd : P.underlying s = some (.struct fields))
    (hf : fields[f]? = some fd) (hn : sizeE P fd.type = some (m + 1)) : SOp P w0 o a h (cptrV (cells.drop fd.offset)) h [] [] := by
  refine sop_pure (by rw [hop]; nofun) (by rw [hop]; rfl) fun h2 hs a2 ha σ w ρ' U r hρ => ?_
  have e1 : a2.eval x = some (cptrV cells) := by rw [ha x (by rw [hop]; simp [Op.operands])]; exact hx
  have hpv := hρ _ _ e1
  generalize hz : ρ' x = z at hpv
  obtain ⟨dst, op, ty, pos, after, guard⟩ := o
  simp only at hop
  subst hop
  cases hpv with
  | cptr hcs hk =>
    rename_i cells' b i
    have hdrop : ∀ (k : Nat) {l l' : List Value}, CRs σ.kp l l' → CRs σ.kp (l.drop k) (l'.drop k) := by
      intro k
      induction k with
      | zero => intro l l' hh; exact hh
      | succ k ih => intro l l' hh; cases hh with
        | nil => exact .nil
        | cons _ ht => exact ih ht
    refine ⟨.pointer (some ⟨b, i + fd.offset, none⟩), ?_, .cptr (hdrop _ hcs) fun j y hj => ?_⟩
    · simp only [execOp, hz]
      exact v_run (by simp [Instr.fieldAt, run_underlying' hd, hf, Instr.sureAddr, fieldPlace, run_sizeOf' hn, Addr.add_eq])
    · rw [List.getElem?_drop] at hj
      rw [Nat.add_assoc]; exact hk _ y hj

theorem sop_append {c : Call} {vs vx : Value} {h' : AH} {tot : Nat} {wr : List Nat} (hop : o.op = .call c) (hb : c.callee = .builtin .append) (hv : evalL a.eval c.args.toList = some [vs, vx])
    (e : appendS P h c.argTypes vs vx = some (tot, v, h', wr)) (hle : tot ≤ 1048576) : SOp P w0 o a h v h' [] wr := by
  have hg : Grow h h' wr := by
    unfold appendS at e
    split at e
    · split at e
      · split at e
        · cases e
        · split at e
          · split at e
            · split at e
              · rename_i oid n1 es1 n2 es2 hdst hsrc
                cases e
                cases oid with
                | none => exact Grow.push _ _ _
                | some id => exact (Grow.set _ _ _ (by simp)).trans (Grow.push _ _ _)
              · cases e
            · cases e
          · cases e
      · cases e
    · cases e
  obtain ⟨callee, args, ats⟩ := c
  simp only at hb
  subst hb
  refine sop_act (by rw [hop]; nofun) (by rw [hop]; rfl) (by rw [hop]; rfl) hg fun a2 hx σ w ρ' U r hρ => ?_
  rw [← evalL_alike hop hx] at hv
  obtain ⟨s', x', hx', hr1, hr2⟩ := list2 (evalL_sound hρ hv)
  have ha : args.map ρ' = #[s', x'] := by apply Array.ext'; rw [← hx']; simp
  obtain ⟨σ', w', v', g1, g2, g3, g4⟩ := appendS_sound (ty := o.type) r hr1 hr2 e hle
  exact ⟨σ', w', v', g1, g2, run_builtin hop rfl (by simp only [ha]; exact v_run g3), g4⟩

/-- a call that is known by what it answers -/
theorem sop_call {gs : List ABlk} (hN : noGo P) (g0 : ∀ U, G0 gs (w0.at U)) {c : Call} {f : FuncId} {args : List Value} (hop : o.op = .call c) (hc : callE P a.eval c h = some (.enter f args, h))
    (hcl : (args.map (snapV h)).all cvV = true) (k : K1 P gs f (args.map (snapV h)) v) (hbody : ∃ fn, P.funcs[f]? = some fn ∧ fn.body.isSome = true) : SOp P w0 o a h v h [] [] := by
  have hnd : ∀ c, o.op ≠ .defer c := by rw [hop]; nofun
  have hl : lightOp P o.op = false := by
    rw [hop]
    obtain ⟨callee, as, ats⟩ := c
    cases callee with
    | builtin b =>
      exfalso
      unfold callE at hc
      split at hc
      · cases hc
      · simp only at hc
        unfold builtinE at hc
        split at hc <;> simp [Option.map_eq_some_iff] at hc
    | value f => rfl
    | invoke r m => rfl
  refine ⟨hnd, fun a2 hr hx U σ w b t d cs ops i rest k' ho r f' hcs hw => ?_, fun hh => (by rw [hl] at hh; cases hh), fun hh => (by rw [hop] at hh; cases hh), Grow.refl _ _⟩
  have hc2 : opE P a2.eval o.type o.op h = some (.enter f args, h) := by
    rw [opE_congr _ _ _ hx, hop]; exact hc
  have hs := opE_sound r hN (f'.eval r.gl) hc2
  obtain ⟨_, args', hva, hrun⟩ := hs
  obtain ⟨fn, hfn, hfb⟩ := hbody
  obtain ⟨e, w', fr, ⟨σ', v', rfl, x1, r', hv⟩, s1, s2, s3, s4, s5, fn1, s6, s7⟩ := (k.lift (g0 U) hcl r (snapVs_VR r hva)) (mk b t d (.inRegion ops (i :: rest) :: k') :: cs)
  have hfin := finish_mk (b := b) (t := t) (d := d) (k := k') ops i rest v'
  rw [ho] at hfin
  simp only [Option.bind_some] at hfin
  refine ⟨σ', w', _, x1, r', (f'.mono x1).put o.dst hv, ?_⟩
  rw [← hfin]
  exact .head (sk_enter ho hw (.inr hnd) (hrun fn hfn hfb)) (s1.trans (.one (step_leave_returned ⟨s3, s4, s5, fn1, s6, s7⟩)))

end
end Go.Proofs.YtmcmaklilfgdiaaGreat.Ev
