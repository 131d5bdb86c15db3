/- Symbolic runs: an append to a list that a block owns. -/
import Derived.Test.YtmcmaklilfgdiaaGreatSd
namespace Go.Proofs.YtmcmaklilfgdiaaGreat.Ev
open Go Go.RowKit

def chunkL (sz : Nat) : Nat → List Value → List Value
  | 0, _ => []
  | n + 1, l => .agg ⟨l.take sz⟩ :: chunkL sz n (l.drop sz)

theorem chunk_len {sz : Nat} : ∀ (n : Nat) (l : List Value), (chunkL sz n l).length = n
  | 0, _ => rfl
  | n + 1, l => by simp [chunkL, chunk_len n]
theorem chunk_flat (sz : Nat) : ∀ (n : Nat) (l : List Value), l.length = n * sz → (chunkL sz n l).flatMap cellsL = l
  | 0, l, h => by
    have : l = [] := List.length_eq_zero_iff.1 (by omega)
    subst this; rfl
  | n + 1, l, h => by
    rw [Nat.add_mul, Nat.one_mul] at h
    have ih := chunk_flat sz n (l.drop sz) (by simp; omega)
    simp only [chunkL, List.flatMap_cons, ih]
    simp only [cellsL]
    exact List.take_append_drop sz l
theorem chunk_sz (sz : Nat) : ∀ (n : Nat) (l : List Value), l.length = n * sz → (∀ v ∈ l, oneC v = true) → ∀ e ∈ chunkL sz n l, wfE sz e
  | 0, l, h, _, e, he => by cases he
  | n + 1, l, h, ho, e, he => by
    rw [Nat.add_mul, Nat.one_mul] at h
    simp only [chunkL, List.mem_cons] at he
    rcases he with rfl | he
    · refine ⟨?_, fun v hv => ho v (List.mem_of_mem_take hv)⟩
      show (l.take sz).length = sz
      simp; omega
    · exact chunk_sz sz n (l.drop sz) (by simp; omega) (fun v hv => ho v (List.mem_of_mem_drop hv)) e he

/-- the elements that are appended -/
def srcS (h : AH) (agg : Bool) (sz : Nat) (x : Value) : Option (Nat × List Value) :=
  match lookL h x with
  | some (sz', n, es, _) => if Nat.beq sz' sz then some (n, es) else none
  | none =>
    match x with
    | .string s => if Nat.beq sz 1 && !agg then some (s.size, s.data.toList.map fun b => .int .u8 b.toNat) else none
    | x => match srcE h sz x with
      | some (n, news) =>
        if (news.map (snap1 h)).all cv1 then
          if agg then some (n, chunkL sz n (news.map (snap1 h)))
          else if Nat.beq sz 1 then some (n, news.map (snap1 h)) else none
        else none
      | none => none

def dstS (h : AH) (sz : Nat) (s : Value) : Option (Option Nat × Nat × List Value) :=
  match s with
  | .slice none 0 0 => some (none, 0, [])
  | .func (.yield id) _ ⟨[.bool false]⟩ => match h.get id with
    | some (.lst n es sz') => if Nat.beq sz' sz then some (some id, n, es) else none
    | _ => none
  | _ => none

def killO (h : AH) (o : Option Nat) : AH := match o with | some id => h.set id .dead | none => h

def isIntT : TypeDesc → Bool
  | .int _ => true
  | _ => false

/-- an append: how many there are then, the list, the memory, the blocks that it turns -/
def appendS (P : Program) (h : AH) (ats : Array TypeId) (s x : Value) : Option (Nat × Value × AH × List Nat) :=
  match ats[0]?, ats[1]? with
  | some sType, some xType =>
    match P.underlying sType, P.underlying xType with
    | some (.slice elem), some d =>
      if isIntT d then none else
      match P.info? elem, zeroE P elem, isAggE P elem with
      | some i, some z, some agg =>
        if Nat.beq (cellsL z).length i.size && Nat.blt 0 i.size && Nat.ble i.bytes 65536 then
          match dstS h i.size s, srcS h agg i.size x with
          | some (oid, n1, es1), some (n2, es2) => some (n1 + n2, ownV h.n, (killO h oid).push (.lst (n1 + n2) (es1 ++ es2) i.size), oid.toList)
          | _, _ => none
        else none
      | _, _, _ => none
    | _, _ => none
  | _, _ => none

section
variable {P : Program} {σ : Sg} {w0 : Bs} {h : AH} {w : World}

theorem cv1_one {v : Value} (h : cv1 v = true) : cellsL v = [v] ∧ oneC v = true := by
  cases v <;> first | exact ⟨rfl, rfl⟩ | (simp [cv1] at h)

theorem cv1_flat : ∀ {l : List Value}, l.all cv1 = true → l.flatMap cellsL = l
  | [], _ => rfl
  | v :: l, h => by
    simp only [List.all_cons, Bool.and_eq_true] at h
    rw [List.flatMap_cons, (cv1_one h.1).1, cv1_flat h.2]; rfl

theorem CRs.one {κ : Nat → Nat → Option Value} : ∀ {l l' : List Value}, CRs κ l l' → l.length = l'.length := CRs.length

theorem lst_src (r : R w0 σ h w) {sz n : Nat} {es : List Value} {x' : Value} (hc : CR σ.kp (lstV sz n es) x') :
    ∃ news', Src P σ w sz n (es.flatMap cellsL) x' news' ∧ CRs σ.kp (es.flatMap cellsL) news' ∧ es.length = n ∧ ∀ e ∈ es, wfE sz e := by
  cases hc with
  | lst hn hz hcs hk hcap =>
    rename_i es' b i c
    have hlen : es'.length = n * sz := by rw [← hcs.length, flat_len hz, hn]
    have hcell : ∀ (w1 : World), (∀ j v, es'[j]? = some v → w1.cell? ⟨b, i + j, none⟩ = some v) → ∀ m, m ≤ n → (Builtin.firstCells sz m (.slice (some ⟨b, i, none⟩) n c)).run P w1 = .ok ⟨es'.take (m * sz)⟩ w1 := by
      intro w1 hw1 m hm
      exact load_take w1 _ es' _ (by rw [hlen]; exact Nat.mul_le_mul_right _ hm) (fun j v hj => by rw [Addr.add_eq]; exact hw1 j v hj)
    exact ⟨es', ⟨CRs.toVRs hcs, by rw [flat_len hz, hn], fun w => by simp [Builtin.lenOf], hcell w (fun j v hj => r.keep _ _ _ (hk j v hj)), hcell w.drew (fun j v hj => r.keep _ _ _ (hk j v hj))⟩, hcs, hn, hz⟩
  | lst0 a c hac =>
    refine ⟨[], ⟨.nil, by simp, fun w => by simp [Builtin.lenOf], fun m hm => ?_, fun m hm => ?_⟩, .nil, rfl, by simp⟩
    · obtain rfl : m = 0 := by omega
      cases a <;> simp [Builtin.firstCells, loadCells, loadCellsFrom]
    · obtain rfl : m = 0 := by omega
      cases a <;> simp [Builtin.firstCells, loadCells, loadCellsFrom]

theorem srcS_sound (r : R w0 σ h w) {agg : Bool} {sz n : Nat} {es : List Value} {x x' : Value} (hx : VR σ x x') (e : srcS h agg sz x = some (n, es)) :
    ∃ news', Src P σ w sz n (es.flatMap cellsL) x' news' ∧ CRs σ.kp (es.flatMap cellsL) news' ∧ es.length = n ∧ ∀ e ∈ es, wfE sz e := by
  unfold srcS at e
  split at e
  · rename_i sz' n' es' rd hl
    split at e
    · rename_i hs
      simp only [Nat.beq_eq] at hs
      subst hs
      cases e
      exact lst_src r (lookL_CR r hl hx)
    · cases e
  · split at e
    · rename_i s _
      split at e
      · rename_i hs
        simp only [Bool.and_eq_true, Nat.beq_eq] at hs
        obtain ⟨hs, _⟩ := hs
        subst hs
        cases e
        have hflat : ∀ l : List UInt8, (l.map fun b => Value.int .u8 b.toNat).flatMap cellsL = l.map fun b => Value.int .u8 b.toNat := by
          intro l; induction l with
          | nil => rfl
          | cons b l ih => simp only [List.map_cons, List.flatMap_cons, ih]; rfl
        have hone : ∀ l : List UInt8, ∀ e ∈ (l.map fun b => Value.int .u8 b.toNat), wfE 1 e := by
          intro l e he
          obtain ⟨b, _, rfl⟩ := List.mem_map.1 he
          exact ⟨rfl, fun v hv => by simp only [cellsL, List.mem_singleton] at hv; subst hv; rfl⟩
        have hcr : ∀ (l : List UInt8) (l' : List Value), VRs σ (l.map fun b => Value.int .u8 b.toNat) l' → CRs σ.kp (l.map fun b => Value.int .u8 b.toNat) l' := by
          intro l; induction l with
          | nil => intro l' hl; cases hl; exact .nil
          | cons b l ih => intro l' hl; cases hl with
            | cons h1 h2 => cases h1; exact .cons (.int _ _) (ih _ h2)
        obtain ⟨news', S⟩ := src_sound (P := P) r hx (show srcE h 1 (.string s) = some (s.size, s.data.toList.map fun b => .int .u8 b.toNat) from rfl)
        rw [hflat]
        exact ⟨news', S, hcr _ _ S.rel, by simp, hone _⟩
      · cases e
    · split at e
      · rename_i n' news hsrc
        split at e
        · rename_i hall
          obtain ⟨news', S⟩ := src_sound (P := P) r hx hsrc
          have hv := snap1s_VR r S.rel
          have hlen : (news.map (snap1 h)).length = n' * sz := by rw [List.length_map]; exact S.len
          have hcr := cv1s_CR hall hv
          split at e
          · cases e
            rw [chunk_flat _ _ _ hlen]
            exact ⟨news', ⟨hv, hlen, S.lenOf, S.cells, S.cells'⟩, hcr, chunk_len _ _, chunk_sz _ _ _ hlen (fun v hv => (cv1_one (List.all_eq_true.1 hall v hv)).2)⟩
          · split at e
            · rename_i hs
              simp only [Nat.beq_eq] at hs
              subst hs
              cases e
              rw [cv1_flat hall]
              refine ⟨news', ⟨hv, hlen, S.lenOf, S.cells, S.cells'⟩, hcr, by omega, fun e he => ?_⟩
              have hh := cv1_one (List.all_eq_true.1 hall e he)
              exact ⟨by rw [hh.1]; rfl, fun v hv => by rw [hh.1, List.mem_singleton] at hv; subst hv; exact hh.2⟩
            · cases e
        · cases e
      · cases e

theorem CRs.oneC {κ : Nat → Nat → Option Value} {l l' : List Value} (h : CRs κ l l') (ho : ∀ v ∈ l, Ev.oneC v = true) : ∀ v ∈ l', v.oneCell' = true := by
  have : ∀ {l l' : List Value}, VRs ⟨[], κ⟩ l l' → (∀ v ∈ l, Ev.oneC v = true) → ∀ v ∈ l', v.oneCell' = true := by
    intro l l' h
    induction l generalizing l' with
    | nil => cases h; intro _ v hv; cases hv
    | cons x l ih =>
      cases h with
      | cons h1 h2 =>
        intro ho v hv
        rcases List.mem_cons.1 hv with rfl | hv
        · rw [oneC_VR h1]; exact ho x (by simp)
        · exact ih h2 (fun y hy => ho y (by simp [hy])) v hv
  exact this (CRs.toVRs (σ := ⟨[], κ⟩) h) ho

theorem flat_one {sz : Nat} {es : List Value} (h : ∀ e ∈ es, wfE sz e) : ∀ v ∈ es.flatMap cellsL, Ev.oneC v = true := by
  intro v hv
  obtain ⟨e, he, hve⟩ := List.mem_flatMap.1 hv
  exact (h e he).2 v hve

theorem Ext.mp {σ' : Sg} (e : Ext σ σ') (b i : Nat) (v : Value) (h : σ.kp b i = some v) : σ'.kp b i = some v := e.kept b i v h

theorem appendS_sound (r : R w0 σ h w) {ats : Array TypeId} {ty : TypeId} {s s' x x' v : Value} {h' : AH} {tot : Nat} {wr : List Nat} (hs : VR σ s s') (hx : VR σ x x')
    (e : appendS P h ats s x = some (tot, v, h', wr)) (hb : tot ≤ 1048576) :
    ∃ σ' w' v', Ext σ σ' ∧ R w0 σ' h' w' ∧ (Builtin.append_ ats ty #[s', x']).run P w = .ok v' w' ∧ VR σ' v v' := by
  unfold appendS at e
  split at e
  · rename_i sT xT hT hxT
    split at e
    · rename_i elem d hd hxd
      split at e
      · cases e
      · rename_i hint
        have hint' : ∀ k, d ≠ .int k := by intro k hh; subst hh; exact hint rfl
        split at e
        · rename_i i z agg hi hz hagg
          split at e
          · rename_i hq
            simp only [Bool.and_eq_true, Nat.beq_eq, Nat.blt_eq, Nat.ble_eq] at hq
            obtain ⟨⟨q1, q2⟩, q3⟩ := hq
            have hzc := (zero_closed (σ := σ) hz).cells
            have hzs : z.cells.size = i.size := by rw [← Array.length_toList, ← hzc.length]; exact q1
            have hzl : z.cells.toList.length = i.size := by simpa using hzs
            split at e
            · rename_i oid n1 es1 n2 es2 hdst hsrc
              cases e
              obtain ⟨news', S, hcr, hlen2, hz2⟩ := srcS_sound (P := P) r hx hsrc
              have A : App P σ w elem z i.size n2 ats x' (es2.flatMap cellsL) news' := ⟨S.rel, S.len, .inl ⟨xT, d, hxT, hxd, hint', S⟩⟩
              have hln' : news'.length = n2 * i.size := by rw [← A.rel.length]; exact A.len
              -- a new block
              have grow : ∀ (old : List Value) (base : Option Addr) (cap : Nat) (hh : AH), R w0 σ hh w.drew → hh.n = h.n → es1.length = n1 → (∀ e ∈ es1, wfE i.size e) → CRs σ.kp (es1.flatMap cellsL) old →
                  ¬ (n1 + n2 ≤ cap) → (Builtin.firstCells i.size n1 (.slice base n1 cap)).run P w.drew = .ok ⟨old⟩ w.drew →
                  ∃ σ' w' v', Ext σ σ' ∧ R w0 σ' (hh.push (.lst (n1 + n2) (es1 ++ es2) i.size)) w' ∧ (Builtin.append_ ats ty #[.slice base n1 cap, x']).run P w = .ok v' w' ∧ VR σ' (ownV h.n) v' := by
                intro old base cap hh rr hhn hl1 hz1 hc1 hgt hold
                obtain ⟨nc, hnc, hrun⟩ := run_grow (ty := ty) hT hd hi hz hzs rfl A hgt hb q3 q2 hold
                have hlo : old.length = n1 * i.size := by rw [← hc1.length, flat_len hz1, hl1]
                have hrl : (reps z.cells.toList (nc - (n1 + n2))).length = (nc - (n1 + n2)) * i.size := by rw [reps_length, hzl]
                have htot : (old ++ news').length + (reps z.cells.toList (nc - (n1 + n2))).length = nc * i.size := by
                  rw [List.length_append, hlo, hln', hrl, ← Nat.add_mul, ← Nat.add_mul]
                  congr 1; omega
                obtain ⟨σ', p, x1, p1, p2, p3, p4, p5, p6, r'⟩ := rr.ownNew (n := n1 + n2) (sz := i.size) (es := es1 ++ es2) (es' := old ++ news') (spare := reps z.cells.toList (nc - (n1 + n2))) elem (by simp [hl1, hlen2])
                  (fun e he => by rcases List.mem_append.1 he with h1 | h1; exact hz1 e h1; exact hz2 e h1) (by rw [List.flatMap_append]; exact hc1.append hcr) (by
                    rw [htot]
                    have : 0 < nc := by omega
                    exact Nat.ne_of_gt (Nat.mul_pos this q2))
                refine ⟨σ', _, _, x1, r', hrun, ?_⟩
                rw [hhn] at p6
                have := VR.own (c := nc) p6 (by
                  rw [p3, htot]
                  have : 0 < nc := by omega
                  exact Nat.ne_of_gt (Nat.mul_pos this q2)) (by rw [p5]; exact hnc) (by rw [p4, p3, htot]; exact Nat.le_refl _)
                rw [p1, p2, p5] at this
                exact this
              -- nothing at all
              have none' : ∀ (base : Option Addr) (hh : AH), R w0 σ hh w → hh.n = h.n → n1 = 0 → es1 = [] → n2 = 0 → (Builtin.append_ ats ty #[.slice base 0 0, x']).run P w = .ok (.slice base 0 0) w →
                  ∃ σ' w' v', Ext σ σ' ∧ R w0 σ' (hh.push (.lst (n1 + n2) (es1 ++ es2) i.size)) w' ∧ (Builtin.append_ ats ty #[.slice base 0 0, x']).run P w = .ok v' w' ∧ VR σ' (ownV h.n) v' := by
                intro base hh rr hhn h1 h2 h3 hrun
                subst h1; subst h2; subst h3
                have : es2 = [] := List.length_eq_zero_iff.1 hlen2
                subst this
                obtain ⟨σ', p, x1, p1, p2, p3, r'⟩ := rr.ownNil i.size
                rw [hhn] at p3
                exact ⟨σ', w, _, x1, r', hrun, .own0 base p3 p1 p2⟩
              unfold dstS at hdst
              split at hdst
              · -- none yet
                cases hdst
                cases hs
                by_cases hn0 : n2 = 0
                · have hnil : news' = [] := List.length_eq_zero_iff.1 (by rw [hln', hn0]; simp)
                  refine none' none h r rfl rfl rfl hn0 ?_
                  have := run_room (ty := ty) (len := 0) (cap := 0) (base := none) (w' := w) hT hd hi hz hzs rfl A (by omega) (by omega) q3 rfl
                  rw [hn0] at this
                  exact this
                · exact grow [] none 0 h r.drew rfl rfl (by simp) .nil (by omega) (by simp [Builtin.firstCells])
              · rename_i id _
                split at hdst
                · rename_i n es sz' hg
                  split at hdst
                  · rename_i hsz
                    simp only [Nat.beq_eq] at hsz
                    subst hsz
                    cases hdst
                    cases hs with
                    | own hp hr hn hcap =>
                      rename_i c p0
                      obtain ⟨b1, b2, b3, b4, b5, b6⟩ := r.br id _ p0 hg hp
                      obtain ⟨b7, b8, ⟨cc, T, fz, b9, b10, b11⟩, es', b12, b13⟩ := b6 hr
                      have hles' : es'.length = n1 * i.size := by rw [← b12.length, flat_len b4, b3]
                      rw [b2] at hn ⊢
                      by_cases hle : n1 + n2 ≤ c
                      · -- in place
                        have hroom : (n1 + n2) * i.size ≤ p0.room := by
                          have := Nat.mul_le_mul_right i.size hle
                          rw [b1] at hcap; omega
                        have hmul : (n1 + n2) * i.size = n1 * i.size + n2 * i.size := Nat.add_mul _ _ _
                        obtain ⟨w', c', hrun, hb', hs', hout, hin, hz', ho', ht', hou', hk'⟩ := store_run P news' w p0.blk (p0.off + n1 * i.size) 0 cc T fz b9 (by omega) (fun k h1 h2 => unfz b11 (by omega)) (hcr.oneC (flat_one hz2))
                        obtain ⟨σ', p', x1, p1, p2, p3, p4, p5, p6, r'⟩ := r.ownGrow hg hp hr hlen2 hz2 hcr hroom hz' ho' ht' hou' hk' b9 hb' hs' (fun k hk => hout k (by omega)) (fun j v hj => by
                          have := hin j v hj
                          rwa [Nat.add_zero] at this)
                        refine ⟨σ', w', _, x1, r', run_room hT hd hi hz hzs rfl A hle (by omega) q3 (by simp only [Addr.add_eq]; exact hrun), ?_⟩
                        have := VR.own (c := c) p6 (by rw [p3]; exact hr) (by rw [p5]; exact hle) (by rw [p4, p3]; rw [b1] at hcap; exact hcap)
                        rw [p1, p2, p5] at this
                        exact this
                      · have hcell : ∀ j v, es'[j]? = some v → w.drew.cell? ((⟨p0.blk, p0.off, none⟩ : Addr).add j) = some v := fun j v hj => by
                          rw [Addr.add_eq]; exact r.keep _ _ _ (b13 j v hj)
                        have hold : (Builtin.firstCells i.size n1 (.slice (some ⟨p0.blk, p0.off, none⟩) n1 c)).run P w.drew = .ok ⟨es'⟩ w.drew := by
                          have := load_take (P := P) w.drew ⟨p0.blk, p0.off, none⟩ es' (n1 * i.size) (by omega) hcell
                          rw [List.take_of_length_le (by omega)] at this
                          exact this
                        exact grow es' _ c (h.set id .dead) (r.drew.forget id) rfl b3 b4 b12 hle hold
                    | own0 a hp hr hl =>
                      rename_i p0
                      obtain ⟨b1, b2, b3, b4, b5, b6⟩ := r.br id _ p0 hg hp
                      have h0 := b5 hr
                      subst h0
                      have : es1 = [] := List.length_eq_zero_iff.1 b3
                      subst this
                      by_cases hn0 : n2 = 0
                      · have hnil : news' = [] := List.length_eq_zero_iff.1 (by rw [hln', hn0]; simp)
                        refine none' a (h.set id .dead) (r.forget id) rfl rfl rfl hn0 ?_
                        have := run_room (ty := ty) (len := 0) (cap := 0) (base := a) (w' := w) hT hd hi hz hzs rfl A (by omega) (by omega) q3 (by
                          rw [hnil]; cases a <;> simp [storeCells])
                        rw [hn0] at this
                        exact this
                      · exact grow [] a 0 (h.set id .dead) (r.drew.forget id) rfl rfl (by simp) .nil (by omega) (by cases a <;> simp [Builtin.firstCells, loadCells, loadCellsFrom])
                  · cases hdst
                · cases hdst
              · cases hdst
            · cases e
          · cases e
        · cases e
    · cases e
  · cases e

end
end Go.Proofs.YtmcmaklilfgdiaaGreat.Ev
