/- Symbolic runs: blocks that own a list: made, grown, left. -/
import Derived.Test.YtmcmaklilfgdiaaGreatSc
namespace Go.Proofs.YtmcmaklilfgdiaaGreat.Ev
open Go Go.RowKit

section
variable {P : Program} {σ : Sg} {w0 : Bs} {h : AH} {w : World}

/-- a block that is not looked at any more -/
theorem R.forget (r : R w0 σ h w) (id : Nat) : R w0 σ (h.set id .dead) w := by
  by_cases hid : id < h.n
  · have get : ∀ {k : Nat} {b : ABlk}, (h.set id .dead).get k = some b → b ≠ .dead → h.get k = some b := by
      intro k b e hb
      rw [AH.get_set h r.len id hid] at e
      split at e
      · cases e; exact absurd rfl hb
      · exact e
    have nl : ∀ {b : ABlk}, b.live = true → b ≠ .dead := fun hl hh => by rw [hh] at hl; cases hl
    exact {
      len := AH.len_set r.len id .dead
      sl := r.sl
      un := r.un
      br := fun k b p e hp => by
        rw [AH.get_set h r.len id hid] at e
        split at e
        · cases e; trivial
        · exact r.br k b p e hp
      inj := fun i j bi bj pi pj ei ej li lj hi hj hb => r.inj i j bi bj pi pj (get ei (nl li)) (get ej (nl lj)) li lj hi hj hb
      below := r.below
      gl := r.gl
      lone := fun i j n sz es bj pi pj ei ej lj hi hj hr => r.lone i j n sz es bj pi pj (get ei (by nofun)) (get ej (nl lj)) lj hi hj hr
      ltwo := fun i j n sz n' sz' es es' pi pj ei ej hi hj hri hrj hb => r.ltwo i j n sz n' sz' es es' pi pj (get ei (by nofun)) (get ej (by nofun)) hi hj hri hrj hb
      keep := r.keep
      kown := fun b i v hv => ⟨fun k bk p e lb hp => (r.kown b i v hv).1 k bk p (get e (nl lb)) lb hp, fun k n sz es p e hp hr => (r.kown b i v hv).2 k n sz es p (get e (by nofun)) hp hr⟩
      kpn := r.kpn }
  · have : h.set id .dead = h := by
      unfold AH.set
      rw [if_neg (by simpa [Nat.blt_eq] using hid)]
    rw [this]; exact r

/-- behind a list's end its block has been written -/
theorem R.beyond (r : R w0 σ h w) {id n sz : Nat} {es : List Value} {p : Pl} {w' : World} {c c' : Array Value} {T T' : TypeId} {fz fz' : Nat × Nat} (e : h.get id = some (.lst n es sz)) (hp : pl σ id = some p) (hr : p.room ≠ 0)
    (hs : w'.heap.size = w.heap.size) (ho : w'.os = w.os) (ht : w'.tape = w.tape) (hout : w'.output = w.output)
    (hk : ∀ k, k ≠ p.blk → w'.heap[k]? = w.heap[k]?) (h1 : w.heap[p.blk]? = some (.cells c T fz)) (h2 : w'.heap[p.blk]? = some (.cells c' T' fz')) (hc : ∀ i, i < p.off + n * sz → c'[i]? = c[i]?) :
    R w0 σ (h.set id .dead) w' := by
  have hid := AH.get_lt e
  have get : ∀ {k : Nat} {b : ABlk}, (h.set id .dead).get k = some b → b ≠ .dead → k ≠ id ∧ h.get k = some b := by
    intro k b e hb
    rw [AH.get_set h r.len id hid] at e
    split at e
    · cases e; exact absurd rfl hb
    · rename_i hne; exact ⟨hne, e⟩
  have nl : ∀ {b : ABlk}, b.live = true → b ≠ .dead := fun hl hh => by rw [hh] at hl; cases hl
  have hok : w0.ok p.blk := by
    obtain ⟨_, _, _, _, _, g⟩ := r.br id _ p e hp
    exact (g hr).1
  exact {
    len := AH.len_set r.len id .dead
    sl := r.sl
    un := r.un
    br := fun k b q ek hq => by
      by_cases hd : b = .dead
      · subst hd; trivial
      · obtain ⟨hne, ek⟩ := get ek hd
        have hb := r.br k b q ek hq
        by_cases hsn : b.seen q
        · have hne2 : q.blk ≠ p.blk := by
            by_cases hl : b.live = true
            · exact fun hh => r.lone id k n sz es b p q e ek hl hp hq hr hh.symm
            · cases b with
              | dead => exact hsn.elim
              | ro vs => intro hh; rw [← hh] at hok; exact hb.1 hok
              | lst n' es' sz' => exact fun hh => hne (r.ltwo k id n' sz' n sz es' es q p ek e hq hp hsn hr hh)
              | _ => exact absurd rfl hl
          rw [hk q.blk hne2]; exact hb
        · exact hb.unseen hsn
    inj := fun i j bi bj pi pj ei ej li lj hi hj hb => r.inj i j bi bj pi pj (get ei (nl li)).2 (get ej (nl lj)).2 li lj hi hj hb
    below := ⟨ho.trans r.below.os, ht.trans r.below.tape, hout.trans r.below.output, by have := r.below.size; omega, fun k hk2 => by
      rw [hk k (fun hh => hk2 (by rw [hh]; exact hok))]; exact r.below.block k hk2⟩
    gl := r.gl
    lone := fun i j n sz es bj pi pj ei ej lj hi hj hr => r.lone i j n sz es bj pi pj (get ei (by nofun)).2 (get ej (nl lj)).2 lj hi hj hr
    ltwo := fun i j n sz n' sz' es es' pi pj ei ej hi hj hri hrj hb => r.ltwo i j n sz n' sz' es es' pi pj (get ei (by nofun)).2 (get ej (by nofun)).2 hi hj hri hrj hb
    keep := fun b i v hv => by
      have hv0 := r.keep b i v hv
      by_cases hb : b = p.blk
      · subst hb
        have hlt := (r.kown _ i v hv).2 id n sz es p e hp hr rfl
        simp only [World.cell?, h1] at hv0
        simp only [World.cell?, h2, hc i hlt]
        exact hv0
      · rw [cell_of (hk b hb) i]; exact hv0
    kown := fun b i v hv => ⟨fun k bk p e lb hp => (r.kown b i v hv).1 k bk p (get e (nl lb)).2 lb hp, fun k n sz es p e hp hr => (r.kown b i v hv).2 k n sz es p (get e (by nofun)).2 hp hr⟩
    kpn := r.kpn }

/-- cells of one block that stay, beside those that stayed -/
def kpMore (κ : Nat → Nat → Option Value) (b i : Nat) (l : List Value) : Nat → Nat → Option Value := fun b' i' =>
  match κ b' i' with
  | some v => some v
  | none => if b' = b ∧ i ≤ i' then l[i' - i]? else none

theorem kpMore_old {κ : Nat → Nat → Option Value} {b i : Nat} {l : List Value} (b' i' : Nat) (v : Value) (h : κ b' i' = some v) : kpMore κ b i l b' i' = some v := by
  unfold kpMore; rw [h]

theorem kpMore_new {κ : Nat → Nat → Option Value} {b i : Nat} {l : List Value} (hn : ∀ j u, κ b (i + j) = some u → l[j]? = some u) {j : Nat} {v : Value} (h : l[j]? = some v) : kpMore κ b i l b (i + j) = some v := by
  unfold kpMore
  split
  · rename_i u hu
    rw [hn j u hu] at h; exact h
  · simp [h]

theorem kpMore_inv {κ : Nat → Nat → Option Value} {b i : Nat} {l : List Value} {b' i' : Nat} {v : Value} (h : kpMore κ b i l b' i' = some v) : κ b' i' = some v ∨ (b' = b ∧ ∃ j, i' = i + j ∧ l[j]? = some v) := by
  unfold kpMore at h
  split at h
  · rename_i u hu; cases h; exact .inl hu
  · split at h
    · rename_i hc; exact .inr ⟨hc.1, i' - i, by omega, h⟩
    · cases h

theorem CRs.append {κ : Nat → Nat → Option Value} : ∀ {l l' m m' : List Value}, CRs κ l l' → CRs κ m m' → CRs κ (l ++ m) (l' ++ m')
  | _, _, _, _, .nil, h => h
  | _, _, _, _, .cons h t, k => .cons h (CRs.append t k)
theorem CRs.length {κ : Nat → Nat → Option Value} : ∀ {l l' : List Value}, CRs κ l l' → l.length = l'.length
  | _, _, .nil => rfl
  | _, _, .cons _ t => by simp [CRs.length t]

theorem flat_len {sz : Nat} : ∀ {es : List Value}, (∀ e ∈ es, wfE sz e) → (es.flatMap cellsL).length = es.length * sz
  | [], _ => by simp
  | e :: es, h => by
    have ih := flat_len (fun x hx => h x (List.mem_cons_of_mem _ hx))
    simp only [List.flatMap_cons, List.length_append, ih, (h e (by simp)).1, List.length_cons, Nat.add_mul, Nat.one_mul]
    omega

/-- a list that a new block owns -/
theorem R.ownNew (r : R w0 σ h w) {n sz : Nat} {es : List Value} {es' spare : List Value} (T : TypeId) (hn : es.length = n) (hz : ∀ e ∈ es, wfE sz e) (hc : CRs σ.kp (es.flatMap cellsL) es') (hne : es'.length + spare.length ≠ 0) :
    ∃ σ' p, Ext σ σ' ∧ p.blk = w.heap.size ∧ p.off = 0 ∧ p.room = es'.length + spare.length ∧ p.esz = sz ∧ p.len = n ∧ pl σ' h.n = some p ∧ R w0 σ' (h.push (.lst n es sz)) (w.alloc (.cells ⟨es' ++ spare⟩ T)) := by
  let p : Pl := ⟨w.heap.size, 0, es'.length + spare.length, sz, n⟩
  let κ := kpMore σ.kp w.heap.size 0 es'
  have hnone : ∀ j u, σ.kp w.heap.size (0 + j) = some u → es'[j]? = some u := by
    intro j u hu
    have := kept_lt (r.keep _ _ _ hu)
    omega
  have r1 := r.world (w' := w.alloc (.cells ⟨es' ++ spare⟩ T)) (r.below.alloc _) (fun k hk => Below.heap_alloc w _ k hk)
  have hblk : (w.alloc (.cells ⟨es' ++ spare⟩ T)).heap[w.heap.size]? = some (.cells ⟨es' ++ spare⟩ T) := Array.getElem?_push_size
  have r2 : R w0 ⟨σ.pls, κ⟩ h (w.alloc (.cells ⟨es' ++ spare⟩ T)) := r1.more (κ := κ) (fun b i v hv => kpMore_old b i v hv) (fun b i v hv => by
    rcases kpMore_inv hv with hh | ⟨rfl, j, rfl, hj⟩
    · exact .inl hh
    · refine .inr ⟨?_, r.okn, fun id bk q e lb hq hb => ?_, fun id n' sz' es2 q e hq hr hb => ?_⟩
      · simp only [World.cell?, hblk, Nat.zero_add]
        have := (List.getElem?_eq_some_iff.1 hj).1
        simp [List.getElem?_append_left this, hj]
      · have := (r.blk_lt e lb hq).2; omega
      · have := r.seen_lt e hq (show (ABlk.lst n' es2 sz').seen q from hr); omega)
  have hfl := flat_len hz
  have hl' : es'.length = n * sz := by rw [← hc.length, hfl, hn]
  have r3 := r2.push (b := .lst n es sz) (p := p) ⟨rfl, rfl, hn, hz, fun hr => absurd hr hne, fun _ => ⟨r.okn, by show n * sz ≤ es'.length + spare.length; omega, ⟨_, T, (0, 0), hblk, by simp [p], .inl rfl⟩, es', hc.mono (fun b i v hv => kpMore_old b i v hv),
      fun j v hj => kpMore_new hnone hj⟩⟩ (fun _ _ => {
        live := fun j bj pj ej lj hj _ hb => by
          have := (r.blk_lt ej lj hj).2
          have h2 : pj.blk = w.heap.size := hb
          omega
        lst := fun j n' sz' es2 pj ej hj hr _ hb => by
          have := r.seen_lt ej hj (show (ABlk.lst n' es2 sz').seen pj from hr)
          have h2 : pj.blk = w.heap.size := hb
          omega
        kept := fun i v hh => by cases hh
        under := fun i n' sz' es2 v hh hr hv => by
          cases hh
          rcases kpMore_inv hv with hh | ⟨_, j, rfl, hj⟩
          · have := kept_lt (r.keep _ _ _ hh)
            have h2 : p.blk = w.heap.size := rfl
            omega
          · have := (List.getElem?_eq_some_iff.1 hj).1
            show 0 + j < 0 + n * sz
            omega })
  exact ⟨_, p, (Ext.keep σ (fun b i v hv => kpMore_old b i v hv)).trans (Ext.snoc _ p), rfl, rfl, rfl, rfl, rfl, get_new r2 p, r3⟩

/-- a list that a block owns, grown where it lies -/
theorem R.ownGrow (r : R w0 σ h w) {id n sz n2 : Nat} {es es2 news' : List Value} {p : Pl} {w' : World} {c c' : Array Value} {T : TypeId} {fz : Nat × Nat} (e : h.get id = some (.lst n es sz)) (hp : pl σ id = some p) (hr : p.room ≠ 0)
    (hn2 : es2.length = n2) (hz2 : ∀ e ∈ es2, wfE sz e) (hc2 : CRs σ.kp (es2.flatMap cellsL) news') (hroom : (n + n2) * sz ≤ p.room)
    (hs : w'.heap.size = w.heap.size) (ho : w'.os = w.os) (ht : w'.tape = w.tape) (hout : w'.output = w.output)
    (hk : ∀ k, k ≠ p.blk → w'.heap[k]? = w.heap[k]?) (h1 : w.heap[p.blk]? = some (.cells c T fz)) (h2 : w'.heap[p.blk]? = some (.cells c' T fz)) (hsz : c'.size = c.size)
    (hlo : ∀ i, i < p.off + n * sz → c'[i]? = c[i]?) (hhi : ∀ j v, news'[j]? = some v → c'[p.off + n * sz + j]? = some v) :
    ∃ σ' p', Ext σ σ' ∧ p'.blk = p.blk ∧ p'.off = p.off ∧ p'.room = p.room ∧ p'.esz = sz ∧ p'.len = n + n2 ∧ pl σ' h.n = some p' ∧ R w0 σ' ((h.set id .dead).push (.lst (n + n2) (es ++ es2) sz)) w' := by
  obtain ⟨g1, g2, g3, g4, g5, g6⟩ := r.br id _ p e hp
  obtain ⟨g7, g8, ⟨c0, T0, fz0, g9, g10, g11⟩, es', g12, g13⟩ := g6 hr
  rw [h1] at g9; cases g9
  have rb := r.beyond e hp hr hs ho ht hout hk h1 h2 hlo
  have hn0 : (h.set id .dead).n = h.n := rfl
  let p' : Pl := ⟨p.blk, p.off, p.room, sz, n + n2⟩
  let κ := kpMore σ.kp p.blk (p.off + n * sz) news'
  have hnone : ∀ j u, σ.kp p.blk (p.off + n * sz + j) = some u → news'[j]? = some u := by
    intro j u hu
    have := (r.kown _ _ u hu).2 id n sz es p e hp hr rfl
    omega
  have hlen' : news'.length = n2 * sz := by rw [← hc2.length, flat_len hz2, hn2]
  have hles' : es'.length = n * sz := by rw [← g12.length, flat_len g4, g3]
  have gdead : ∀ {k : Nat} {b : ABlk}, (h.set id .dead).get k = some b → b ≠ .dead → k ≠ id ∧ h.get k = some b := by
    intro k b e2 hb
    rw [AH.get_set h r.len id (AH.get_lt e)] at e2
    split at e2
    · cases e2; exact absurd rfl hb
    · rename_i hne; exact ⟨hne, e2⟩
  have nolive : ∀ (k : Nat) (bk : ABlk) (q : Pl), (h.set id .dead).get k = some bk → bk.live = true → pl σ k = some q → q.blk ≠ p.blk := by
    intro k bk q ek lb hq hh
    obtain ⟨_, ek⟩ := gdead ek (fun hd => by rw [hd] at lb; cases lb)
    exact r.lone id k n sz es bk p q e ek lb hp hq hr hh.symm
  have nolst : ∀ (k n' sz' : Nat) (es3 : List Value) (q : Pl), (h.set id .dead).get k = some (.lst n' es3 sz') → pl σ k = some q → q.room ≠ 0 → q.blk ≠ p.blk := by
    intro k n' sz' es3 q ek hq hrq hh
    obtain ⟨hne, ek⟩ := gdead ek (by nofun)
    exact hne (r.ltwo k id n' sz' n sz es3 es q p ek e hq hp hrq hr hh)
  have r2 : R w0 ⟨σ.pls, κ⟩ (h.set id .dead) w' := rb.more (κ := κ) (fun b i v hv => kpMore_old b i v hv) (fun b i v hv => by
    rcases kpMore_inv hv with hh | ⟨rfl, j, rfl, hj⟩
    · exact .inl hh
    · refine .inr ⟨?_, g7, nolive, fun k n' sz' es3 q ek hq hrq hh => absurd hh (nolst k n' sz' es3 q ek hq hrq)⟩
      simp only [World.cell?, h2, hhi j v hj]
      rfl)
  have hmul : (n + n2) * sz = n * sz + n2 * sz := Nat.add_mul _ _ _
  have r3 := r2.push (b := .lst (n + n2) (es ++ es2) sz) (p := p') ⟨rfl, rfl, by simp [g3, hn2], by
      intro x hx
      rcases List.mem_append.1 hx with hh | hh
      · exact g4 x hh
      · exact hz2 x hh, fun hh => absurd hh hr, fun _ => ⟨g7, hroom, ⟨c', T, fz, h2, by rw [hsz]; exact g10, by rw [hsz]; exact g11⟩, es' ++ news', by
        rw [List.flatMap_append]
        exact (g12.mono (fun b i v hv => kpMore_old b i v hv)).append (hc2.mono (fun b i v hv => kpMore_old b i v hv)), fun j v hj => by
        by_cases hlt : j < es'.length
        · rw [List.getElem?_append_left hlt] at hj
          exact kpMore_old _ _ _ (g13 j v hj)
        · rw [List.getElem?_append_right (by omega)] at hj
          have := kpMore_new hnone hj
          rw [show p.off + n * sz + (j - es'.length) = p'.off + j by show _ = p.off + j; omega] at this
          exact this⟩⟩ (fun _ _ => {
        live := fun j bj pj ej lj hj _ => nolive j bj pj ej lj hj
        lst := fun j n' sz' es3 pj ej hj hr2 _ => nolst j n' sz' es3 pj ej hj hr2
        kept := fun i v hh => by cases hh
        under := fun i n' sz' es3 v hh hr2 hv => by
          cases hh
          rcases kpMore_inv hv with hh | ⟨_, j, rfl, hj⟩
          · have := (r.kown _ _ v hh).2 id n sz es p e hp hr rfl
            show i < p.off + (n + n2) * sz
            omega
          · have := (List.getElem?_eq_some_iff.1 hj).1
            show p.off + n * sz + j < p.off + (n + n2) * sz
            omega })
  exact ⟨_, p', (Ext.keep σ (fun b i v hv => kpMore_old b i v hv)).trans (Ext.snoc _ p'), rfl, rfl, rfl, rfl, rfl, get_new r2 p', r3⟩

/-- an empty list that no block of the machine's holds -/
theorem R.ownNil (r : R w0 σ h w) (sz : Nat) : ∃ σ' p, Ext σ σ' ∧ p.room = 0 ∧ p.len = 0 ∧ pl σ' h.n = some p ∧ R w0 σ' (h.push (.lst 0 [] sz)) w := by
  let p : Pl := ⟨0, 0, 0, sz, 0⟩
  have r3 := r.push (b := .lst 0 [] sz) (p := p) ⟨rfl, rfl, rfl, by simp, fun _ => rfl, fun hh => absurd rfl hh⟩ (fun _ _ => {
    live := fun j bj pj ej lj hj hh => by
      rcases hh with hh | hh
      · cases hh
      · exact absurd rfl hh
    lst := fun j n' sz' es3 pj ej hj hr2 hh => by
      rcases hh with hh | hh
      · cases hh
      · exact absurd rfl hh
    kept := fun i v hh => by cases hh
    under := fun i n' sz' es3 v hh hr2 => absurd rfl hr2 })
  exact ⟨_, p, Ext.snoc _ p, rfl, rfl, get_new r p, r3⟩

end
end Go.Proofs.YtmcmaklilfgdiaaGreat.Ev
