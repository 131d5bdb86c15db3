/- Symbolic runs are sound. -/
import Derived.Test.YtmcmaklilfgdiaaGreatSi
namespace Go.Proofs.YtmcmaklilfgdiaaGreat.Ev
open Go Go.RowKit

section
variable {T : Tab} {P : Program} {gs : List ABlk} {Q : Value → List ABlk → Prop} {w0 : Bs} {m : Nat}

theorem RunI.steps {its its' : List It} {a : AF} {h : AH} (hr : RunI P w0 m its' a h Q) (hs : ∀ (b : Frame) (t : Array Value) (cs : List Frame) (w : World), step P (lone (mk b t [] (its.map It.item)) cs w) = .next (lone (mk b t [] (its'.map It.item)) cs w)) : RunI P w0 m its a h Q := by
  intro σ w b t cs r f hcs
  obtain ⟨v, h', σ', w', v', fr, k1, k2, k3, k4, k5, k6⟩ := hr σ w b t cs r f hcs
  exact ⟨v, h', σ', w', v', fr, k1, k2, k3, k4, .head (hs b t cs w) k5, k6⟩

theorem exitS_ok {id : Nat} : ∀ {k k' : List It}, exitS id k = some k' → exitTo id (k.map It.item) = some (k'.map It.item)
  | [], _, e => by cases e
  | .blk id' :: k, k', e => by
    simp only [exitS] at e
    by_cases hx : Nat.beq id' id = true
    · rw [if_pos hx] at e
      cases e
      simp only [Nat.beq_eq] at hx
      subst hx
      simp [It.item, exitTo]
    · rw [if_neg hx] at e
      have hne : ¬ id' = id := by simpa using hx
      have := exitS_ok e
      simp [It.item, exitTo, hne, this]
  | .code c :: k, k', e => by simp only [exitS] at e; have := exitS_ok e; simpa [It.item, exitTo] using this
  | .lp c :: k, k', e => by simp only [exitS] at e; have := exitS_ok e; simpa [It.item, exitTo] using this
  | .reg o r :: k, k', e => by simp only [exitS] at e; have := exitS_ok e; simpa [It.item, exitTo] using this
  | .drw .. :: k, k', e => by cases e

theorem exitS_still {id : Nat} : ∀ {k k' : List It}, exitS id k = some k' → (∀ x ∈ k, x.still = true) → ∀ x ∈ k', x.still = true
  | [], _, e, _ => by cases e
  | .blk id' :: k, k', e, hk => by
    simp only [exitS] at e
    split at e
    · cases e; exact fun x hx => hk x (by simp [hx])
    · exact exitS_still e (fun x hx => hk x (by simp [hx]))
  | .code c :: k, k', e, hk => exitS_still (k := k) e (fun x hx => hk x (by simp [hx]))
  | .lp c :: k, k', e, hk => exitS_still (k := k) e (fun x hx => hk x (by simp [hx]))
  | .reg o r :: k, k', e, hk => exitS_still (k := k) e (fun x hx => hk x (by simp [hx]))
  | .drw .. :: k, k', e, hk => by cases e

theorem retS_ok {its : List It} {a : AF} {h : AH} (hr : a.rnd = none) (e : retS P m a h Q)
    (hs : ∀ (b : Frame) (t : Array Value) (cs : List Frame) (w : World), b.roundOf = none → ∃ todo, step P (lone (mk b t [] (its.map It.item)) cs w) = .next (lone (back b.fn b.kind t [] todo) cs w)) : RunI P w0 m its a h Q := by
  intro σ w b t cs r f hcs
  have hb : b.roundOf = none := by
    have := f.rnd
    rw [hr] at this
    cases hy : b.roundOf with
    | none => rfl
    | some _ => rw [hy] at this; exact this.elim
  unfold retS at e
  split at e
  · split at e
    · rename_i fn hfn
      split at e
      · rename_i vs hvs
        obtain ⟨v', g1, g2⟩ := results_sound (P := P) r f.tmps hvs
        obtain ⟨todo, hst⟩ := hs b t cs w hb
        exact ⟨_, h, σ, w, v', _, e, r, ⟨fun _ _ _ hh => hh, fun _ _ _ hh => hh⟩, snapV_VR r g1, .one hst, rfl, rfl, rfl, rfl, fn, by rw [← f.fn]; exact hfn, g2⟩
      · exact e.elim
    · exact e.elim
  · exact e.elim

theorem merge_VRs {ρ : Nat → Option Nat} {σ σ' : Sg} (hp : ∀ id k, ρ id = some k → pl σ' k = pl σ id) (hκ : σ'.kp = σ.kp) {live : List Tmp} {J : Nat → Value} : ∀ {l l' m : List Value} (i : Nat), VRs σ l l' → renL ρ (maskL live i l) = some m →
    (∀ j u, l'[j]? = some u → VR σ' (J (i + j)) u) → VRs σ' (mergeJ live J i m) l'
  | _, _, m, i, .nil, e, _ => by cases e; exact .nil
  | _, _, m, i, .cons hv ht, e, hJ => by
    simp only [maskL, renL] at e
    split at e
    · rename_i u l1 h1 h2
      cases e
      simp only [mergeJ]
      refine .cons ?_ (merge_VRs hp hκ (i + 1) ht h2 fun j u hu => ?_)
      · by_cases hc : live.contains i = true
        · rw [if_pos hc] at h1 ⊢
          exact renV_VR hp hκ h1 hv
        · rw [if_neg hc]
          exact hJ 0 _ rfl
      · have := hJ (j + 1) u (by simpa using hu)
        rw [show i + 1 + j = i + (j + 1) by omega]; exact this
    · cases e

theorem canon_ok {its : List It} {live : List Tmp} {a a' : AF} {h h' : AH} (hun : ∀ id, ¬ w0.un id) (e : canonS m live a h = some (a', h'))
    (hr : ∀ J, RunI P w0 m its { a' with tmps := mergeJ live J 0 a'.tmps } h' Q) : RunI P w0 m its a h Q := by
  intro σ w b t cs r f hcs
  unfold canonS at e
  split at e
  · rename_i hdf hrn
    generalize reachL h 64 0 (addIds (List.range m) (maskL live 0 a.tmps)) = ids at e
    simp only at e
    split at e
    · rename_i hc
      simp only [Bool.and_eq_true] at hc
      split at e
      · rename_i ts bs hts hbs
        cases e
        obtain ⟨r', hidx, hpm⟩ := r.restrict hun hc.1.1 hc.1.2 (Nat.le_of_ble_eq_true hc.2) hbs
        have hj : ∀ i : Nat, ∃ v : Value, ∀ u : Value, t.toList[i]? = some u → ∀ σ, VR σ v u := by
          intro i
          cases hu : t.toList[i]? with
          | none => exact ⟨undef, fun u hh => by cases hh⟩
          | some u =>
            obtain ⟨v, hv⟩ := jv_ex _ u (Nat.le_refl _)
            exact ⟨v, fun u' hh => by cases hh; exact hv⟩
        obtain ⟨J, hJ⟩ := Classical.axiomOfChoice hj
        have f' : FR ⟨ids.map (fun id => pl σ id), σ.kp⟩ ⟨a.fn, mergeJ live J 0 ts, [], none⟩ b t [] :=
          ⟨f.fn, merge_VRs hidx rfl 0 f.tmps hts (fun j u hu => by rw [Nat.zero_add]; exact hJ j u hu _), .nil, by
            have := f.rnd
            rw [hrn] at this
            cases hy : b.roundOf with
            | none => trivial
            | some _ => rw [hy] at this; exact this.elim⟩
        obtain ⟨v, h', σ', w', v', fr, k1, k2, k3, k4⟩ := hr J _ w b t cs r' f' hcs
        exact ⟨v, h', σ', w', v', fr, k1, k2, ⟨k3.1, fun j p hj hp => k3.2 j p hj (by rw [hpm j hj]; exact hp)⟩, k4⟩
      · cases e
    · cases e
  · cases e


/-- what follows a region's trace -/
theorem drw_ok (hm : P.follows .mixedOrders = true) {ops : Array Oper} {id : Nat} {k : List It} {a0 a : AF} {h0 h : AH} {ord : List Nat} {es : List Ent}
    (t : Trc P w0 ops a0 h0 ord.reverse es a h) (hs : staticOk P ops ord = true) (hd : dynS P ops ord es.reverse = true) (hr : RunI P w0 m k a h Q) : RunI P w0 m (.code (.region id ops true) :: k) a0 h0 Q := by
  intro σ w b tm cs r f hcs
  obtain ⟨A, H, V, Tt, rfl, rfl, rfl, rfl⟩ := t.toTq hs hd r.len
  obtain ⟨σ1, w1, t1, x1, r1, f1, s1⟩ := draw_all hm Tt (k.map It.item) (w.tape w.drawn (.order b.fn id)) r.drew f hcs
  obtain ⟨v, h', σ', w', v', fr, k1, k2, k3, k4, k5, k6⟩ := hr σ1 w1 b t1 cs r1 f1 hcs
  exact ⟨v, h', σ', w', v', fr, k1, k2, ⟨fun b i u hu => k3.1 b i u (x1.kept b i u hu), fun j p hj hp => k3.2 j p hj (x1 _ _ hp)⟩, k4, .head sk_region_draw (s1.trans k5), k6⟩

theorem put_defs (a : AF) (d : Option Tmp) (v : Value) : (a.put d v).rnd = a.rnd := by cases d <;> rfl

theorem VRs.setSame {σ : Sg} : ∀ {l l' : List Value} (h : VRs σ l l') (i : Nat) {v : Value}, (∀ u, l'[i]? = some u → VR σ v u) → VRs σ (l.set i v) l'
  | _, _, .nil, _, _, _ => .nil
  | _, _, .cons h t, 0, _, k => .cons (k _ rfl) t
  | _, _, .cons h t, i + 1, _, k => .cons h (VRs.setSame t i fun u hu => k u (by simpa using hu))

theorem R.ownC {σ : Sg} {h : AH} {w : World} (r : R w0 σ h w) (v : Option Value) (i sz : Nat) (hv : ∀ id, v = some (.pointer (some ⟨id, 0, none⟩)) → ∃ p, pl σ id = some p) :
    ∃ σ', Ext σ σ' ∧ R w0 σ' (ownCell h v i sz) w := by
  unfold ownCell
  split
  · rename_i id
    split
    · rename_i vs e hvs
      split
      · rename_i hx
        obtain ⟨q, hq⟩ := hv id rfl
        obtain ⟨σ1, p, x1, p1, p2, p3, r1⟩ := r.ownNil sz
        have hlt := AH.get_lt hvs
        have hq1 := x1 _ _ hq
        have e1 : (h.push (.lst 0 [] sz)).get id = some (.cells vs e) := by
          rw [AH.get_push h r.len, if_neg (by omega)]; exact hvs
        refine ⟨σ1, x1, r1.turn e1 rfl hq1 rfl rfl rfl rfl (fun _ _ => rfl) ?_⟩
        obtain ⟨b1, b2, c, T, fz, b3, b4, b5, b6, b7⟩ := r1.br id _ q e1 hq1
        refine ⟨b1, b2, c, T, fz, b3, b4, by rw [setL_eq]; simpa using b5, b6, fun k u hu => ?_⟩
        rw [setL_eq] at hu
        rw [idxL_eq] at hx
        by_cases hk : k = i
        · subst hk
          obtain ⟨u', h1, h2⟩ := b7 k _ hx
          have hl : k < vs.length := (List.getElem?_eq_some_iff.1 hx).1
          rw [List.getElem?_set_self hl] at hu
          cases hu
          cases h2
          exact ⟨_, h1, .own0 none p3 p1 p2⟩
        · rw [List.getElem?_set_ne (fun hh => hk hh.symm)] at hu
          exact b7 k u hu
      · exact ⟨σ, Ext.refl σ, r⟩
    · exact ⟨σ, Ext.refl σ, r⟩
  · exact ⟨σ, Ext.refl σ, r⟩

theorem ownify_ok {its : List It} : ∀ (l : List (Tmp × Nat)) {a : AF} {h : AH}, RunI P w0 m its (ownify l a h).1 (ownify l a h).2 Q → RunI P w0 m its a h Q
  | [], a, h, hr => hr
  | (t, sz) :: l, a, h, hr => by
    unfold ownify at hr
    split at hr
    · split at hr
      · rename_i hx
        have hr' := ownify_ok l hr
        intro σ w b tm cs r f hcs
        obtain ⟨σ1, p, x1, p1, p2, p3, r1⟩ := r.ownNil sz
        have f1 := f.mono x1
        have hslot : ∀ u, tm.toList[t]? = some u → u = .slice none 0 0 := by
          intro u hu
          rw [idxL_eq] at hx
          obtain ⟨v', hv', hr2⟩ := f.tmps.get hx
          rw [hu] at hv'; cases hv'
          cases hr2; rfl
        have f2 : FR σ1 { a with tmps := setL a.tmps (ownV h.n) t } b tm [] := ⟨f1.fn, by
          rw [setL_eq]
          exact f1.tmps.setSame t fun u hu => by rw [hslot u hu]; exact .own0 none p3 p1 p2, f1.defs, f1.rnd⟩
        obtain ⟨v, h', σ', w', v', fr, k1, k2, k3, k4, k5⟩ := hr' σ1 w b tm cs r1 f2 hcs
        exact ⟨v, h', σ', w', v', fr, k1, k2, ⟨fun b i u hu => k3.1 b i u (x1.kept b i u hu), fun j p hj hp => k3.2 j p hj (x1 _ _ hp)⟩, k4, k5⟩
      · exact ownify_ok l hr
    · have hr' := ownify_ok l hr
      intro σ w b tm cs r f hcs
      obtain ⟨σ1, x1, r1⟩ := r.ownC (idxL a.tmps (t % 4096)) (t / 4096 - 1) sz (fun id hid => by
        rw [idxL_eq] at hid
        obtain ⟨v', _, hr2⟩ := f.tmps.get hid
        cases hr2 with
        | ptr hp => exact ⟨_, hp⟩)
      obtain ⟨v, h', σ', w', v', fr, k1, k2, k3, k4, k5⟩ := hr' σ1 w b tm cs r1 (f.mono x1) hcs
      exact ⟨v, h', σ', w', v', fr, k1, k2, ⟨fun b i u hu => k3.1 b i u (x1.kept b i u hu), fun j p hj hp => k3.2 j p hj (x1 _ _ hp)⟩, k4, k5⟩

theorem ownify_rnd : ∀ (l : List (Tmp × Nat)) (a : AF) (h : AH), (ownify l a h).1.rnd = a.rnd
  | [], _, _ => rfl
  | (t, sz) :: l, a, h => by
    unfold ownify
    split
    · split
      · rw [ownify_rnd l]
      · rw [ownify_rnd l]
    · rw [ownify_rnd l]

theorem loopS_ok {body : Code} {k : List It} {a : AF} {h : AH} (g0 : ∀ U, G0 gs (w0.at U)) (hun : ∀ id, ¬ w0.un id) (e : loopS T P gs body k a h Q) : RunI P w0 T.m (.code body :: .lp body :: k) a h Q := by
  unfold loopS at e
  split at e
  · rename_i a' h' hc
    exact ownify_ok _ (canon_ok hun hc (fun J => e.run J w0 g0 hun))
  · exact e.elim

/-- A symbolic run says what the machine comes to. -/
theorem SC_ok (hm : P.follows .mixedOrders = true) (hN : noGo P) (g0 : ∀ U, G0 gs (w0.at U)) (hun : ∀ id, ¬ w0.un id) : ∀ (n : Nat) (its : List It) (a : AF) (h : AH), SC T P gs Q n its a h → a.rnd = none →
    ((∀ x ∈ its, x.still = true) → RunI P w0 T.m its a h Q) ∧
    (∀ (ops : Array Oper) (ord rest : List Nat) (es : List Ent) (k : List It) (id : Nat) (ps : List Nat) (a0 : AF) (h0 : AH), its = .drw ops ord rest es :: k → (∀ x ∈ k, x.still = true) → Trc P w0 ops a0 h0 ps es a h → ord = ps.reverse ++ rest → staticOk P ops ord = true →
      RunI P w0 T.m (.code (.region id ops true) :: k) a0 h0 Q) := by
  intro n
  induction n with
  | zero => intro its a h e; exact e.elim
  | succ n ih =>
    intro its a h e hrn
    have sub : ∀ {its' : List It} {a' : AF} {h' : AH}, SC T P gs Q n its' a' h' → a'.rnd = none → (∀ x ∈ its', x.still = true) → RunI P w0 T.m its' a' h' Q := fun e hr hs => (ih _ _ _ e hr).1 hs
    refine ⟨fun hst => ?_, fun ops ord rest es k id ps a0 h0 hits hst tr hord hsta => ?_⟩
    · cases its with
      | nil => exact retS_ok hrn e (fun b t cs w hb => ⟨[], sk_end hb⟩)
      | cons it k =>
        have hk : ∀ x ∈ k, x.still = true := fun x hx => hst x (by simp [hx])
        have hk1 : ∀ y : It, y.still = true → ∀ x ∈ y :: k, x.still = true := fun y hy x hx => by
          rcases List.mem_cons.1 hx with rfl | hx
          · exact hy
          · exact hk x hx
        cases it with
        | code c =>
          cases c with
          | skip => exact (sub e hrn hk).steps fun b t cs w => sk_skip
          | label l => exact (sub e hrn hk).steps fun b t cs w => sk_label
          | region id ops draw =>
            cases draw with
            | false =>
              exact (sub (its' := .reg ops (List.range ops.size) :: k) e hrn (hk1 _ rfl)).steps fun b t cs w => sk_region
            | true =>
              have e : forceL (orderE P ops ops.size []) (fun ord => bif staticOk P ops ord then SC T P gs Q n (.drw ops ord ord [] :: k) a h else False) := e
              rw [forceL_eq] at e
              cases hs : staticOk P ops (orderE P ops ops.size []) with
              | false => rw [hs] at e; exact e.elim
              | true =>
                rw [hs] at e
                exact (ih _ _ _ e hrn).2 ops _ _ [] k id [] a h rfl hk .nil (by simp) hs
          | seq x y =>
            exact (sub (its' := .code x :: .code y :: k) e hrn (fun z hz => by
              rcases List.mem_cons.1 hz with rfl | hz
              · rfl
              · exact hk1 (.code y) rfl z hz)).steps fun b t cs w => sk_seq
          | cond c x y =>
            have key : ∀ v : Bool, (∀ (σ : Sg) (b : Frame) (t : Array Value), FR σ a b t [] → evalC t c = .bool v) → SC T P gs Q n (.code (if v then x else y) :: k) a h → RunI P w0 T.m (.code (.cond c x y) :: k) a h Q := by
              intro v hv e σ w b t cs r f hcs
              obtain ⟨u, h', σ', w', v', fr, k1, k2, k3, k4, k5, k6⟩ := sub e hrn (hk1 _ rfl) σ w b t cs r f hcs
              exact ⟨u, h', σ', w', v', fr, k1, k2, k3, k4, .head (sk_cond (hv σ b t f)) k5, k6⟩
            cases c with
            | tmp i =>
              simp only [SC] at e
              split at e
              · rename_i v hc
                have hv : ∀ (σ : Sg) (b : Frame) (t : Array Value), FR σ a b t [] → evalC t (.tmp i) = .bool v := by
                  intro σ b t f
                  rw [idxL_eq] at hc
                  obtain ⟨v', hv', hr⟩ := f.tmps.get hc
                  cases hr
                  rw [Array.getElem?_toList] at hv'
                  simp only [evalC, Array.getD_eq_getD_getElem?, hv', Option.getD_some]
                cases v with
                | true => simp only [cond_true, setB_self hc] at e; exact key true hv e
                | false => simp only [cond_false, setB_self hc] at e; exact key false hv e
              · exact e.elim
            | const u =>
              cases u with
              | bool v =>
                cases v with
                | true => exact key true (fun _ _ _ _ => rfl) e
                | false => exact key false (fun _ _ _ _ => rfl) e
              | _ => exact e.elim
            | _ => exact e.elim
          | block id b =>
            exact (sub (its' := .code b :: .blk id :: k) e hrn (fun z hz => by
              rcases List.mem_cons.1 hz with rfl | hz
              · rfl
              · exact hk1 (.blk id) rfl z hz)).steps fun b t cs w => sk_block
          | loop b => exact (loopS_ok g0 hun e).steps fun b t cs w => sk_loop
          | exit id =>
            simp only [SC] at e
            split at e
            · rename_i k' hx
              exact (sub e hrn (exitS_still hx hk)).steps fun b t cs w => sk_exit (exitS_ok hx)
            · exact e.elim
          | ret => exact retS_ok hrn e (fun b t cs w hb => ⟨_, sk_ret hb⟩)
          | _ => exact e.elim
        | blk id => exact (sub e hrn hk).steps fun b t cs w => sk_inBlock
        | lp b => exact (loopS_ok g0 hun e).steps fun b t cs w => sk_inLoop
        | reg ops rest =>
          cases rest with
          | nil => exact (sub e hrn hk).steps fun b t cs w => sk_region_end
          | cons i rest =>
            simp only [SC] at e
            split at e
            · rename_i o ho
              intro σ w b t cs r f hcs
              have hwq := wanted_eq f.tmps ops o
              rcases wantS_ok e with ⟨hw, e⟩ | ⟨hw, e⟩
              · obtain ⟨v, h1, rd, wr, sop, e⟩ := opS_ok hN g0 e
                obtain ⟨σ1, w1, t1, x1, r1, f1, s1⟩ := sop.ok a rfl (fun _ _ => rfl) w0.un σ w b t [] cs ops i rest (k.map It.item) ho r f hcs (by rw [← hwq]; exact hw)
                have key := sub e (by rw [put_defs]; exact hrn) (hk1 _ rfl)
                obtain ⟨u, h', σ', w', v', fr, k1, k2, k3, k4, k5, k6⟩ := key σ1 w1 b t1 cs r1 f1 hcs
                exact ⟨u, h', σ', w', v', fr, k1, k2, ⟨fun b i u hu => k3.1 b i u (x1.kept b i u hu), fun j p hj hp => k3.2 j p hj (x1 _ _ hp)⟩, k4, s1.trans k5, k6⟩
              · have key := sub e (by rw [put_defs]; exact hrn) (hk1 (.reg ops rest) rfl)
                have hst : step P (lone (mk b t [] (.inRegion ops (i :: rest) :: k.map It.item)) cs w) = .next (lone (mk b (putA t o.dst undef) [] (.inRegion ops rest :: k.map It.item)) cs w) := by
                  have := sk_op_skip (P := P) (b := b) (t := t) (d := []) (k := k.map It.item) (cs := cs) (w := w) (ops := ops) (i := i) (rest := rest) (by rw [ho]; rw [hwq] at hw; simpa using hw)
                  simpa [ho] using this
                obtain ⟨u, h', σ', w', v', fr, k1, k2, k3, k4, k5, k6⟩ := key σ w b _ cs r (f.put o.dst (undef_VR σ)) hcs
                exact ⟨u, h', σ', w', v', fr, k1, k2, k3, k4, .head hst k5, k6⟩
            · exact e.elim
        | drw ops ord rest es =>
          have := hst (.drw ops ord rest es) (by simp)
          cases this
    · subst hits
      cases rest with
      | nil =>
        simp only [List.append_nil] at hord
        simp only [SC] at e
        cases hd : dynS P ops ord es.reverse with
        | false => rw [hd] at e; exact e.elim
        | true =>
          rw [hd] at e
          have hord' : ps = ord.reverse := by rw [hord, List.reverse_reverse]
          subst hord'
          exact drw_ok hm tr hsta hd (sub e hrn hst)
      | cons i rest =>
        simp only [SC] at e
        split at e
        · rename_i o ho
          rcases wantS_ok e with ⟨hw, e⟩ | ⟨hw, e⟩
          · obtain ⟨v, h1, rd, wr, sop, e⟩ := opS_ok hN g0 e
            exact (ih _ _ _ e (by rw [put_defs]; exact hrn)).2 ops ord rest _ k id (i :: ps) a0 h0 rfl hst (.step tr ho (.inl ⟨hw, sop⟩)) (by rw [hord]; simp) hsta
          · exact (ih _ _ _ e (by rw [put_defs]; exact hrn)).2 ops ord rest _ k id (i :: ps) a0 h0 rfl hst (.step tr ho (.inr ⟨hw, rfl, rfl, rfl, rfl⟩)) (by rw [hord]; simp) hsta
        · exact e.elim

end
end Go.Proofs.YtmcmaklilfgdiaaGreat.Ev
