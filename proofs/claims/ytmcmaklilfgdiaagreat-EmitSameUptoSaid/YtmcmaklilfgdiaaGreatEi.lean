/- Each operation of the evaluator is the machine's: len, copy, the greatest, conversions, and all of them. -/
import Derived.Test.YtmcmaklilfgdiaaGreatEh
import Derived.Laws.BytesString
namespace Go.Proofs.YtmcmaklilfgdiaaGreat.Ev
open Go Go.RowKit

section
variable {P : Program} {σ : Sg} {w0 : Bs} {h : AH} {w : World}

theorem len_sound (r : R w0 σ h w) {argTypes : Array TypeId} {ty : TypeId} {x x' v : Value} (hx : VR σ x x') (e : lenE P h argTypes x = some v) :
    ∃ v', (Builtin.len_ argTypes ty #[x']).run P w = .ok v' w ∧ VR σ v v' := by
  unfold lenE at e
  have h0 : ∀ y, (#[y] : Array Value)[0]? = some y := fun _ => rfl
  split at e
  · rename_i t ht
    split at e
    · rename_i s hd; cases e; cases hx
      exact ⟨_, by simp [Builtin.len_, ht, run_underlying' hd]; rfl, .int _ _⟩
    · rename_i n x2 hd; cases e
      exact ⟨_, by simp [Builtin.len_, ht, run_underlying' hd]; rfl, .int _ _⟩
    · rename_i a n c hd; cases e
      cases hx <;> exact ⟨_, by simp [Builtin.len_, ht, run_underlying' hd]; rfl, .int _ _⟩
    · rename_i hd; cases e; cases hx
      exact ⟨_, by simp [Builtin.len_, ht, run_underlying' hd]; rfl, .int _ _⟩
    · rename_i b hd
      split at e
      · rename_i es clock hg
        cases hx with
        | map hp =>
          obtain ⟨_, es', ho, hes⟩ := r.br _ _ _ hg hp
          cases e
          refine ⟨goInt es'.length, ?_, by rw [hes.length]; exact .int _ _⟩
          simp [Builtin.len_, ht, run_underlying' hd, getObj, Sem.run, ho]
      · cases e
    · cases e
  · cases e

theorem cap_sound {argTypes : Array TypeId} {ty : TypeId} {x x' v : Value} (hx : VR σ x x') (e : capE P argTypes x = some v) (w : World) :
    ∃ v', (Builtin.cap_ argTypes ty #[x']).run P w = .ok v' w ∧ VR σ v v' := by
  unfold capE at e
  split at e
  · rename_i t ht
    split at e
    · rename_i a n c hd
      split at e
      · rename_i hc
        simp only [Nat.blt_eq] at hc
        cases e
        cases hx with
        | nilslice => exact ⟨_, by simp [Builtin.cap_, ht, run_underlying' hd]; rfl, .int _ _⟩
        | slice hp h2 => exact ⟨_, by simp [Builtin.cap_, ht, run_underlying' hd]; rfl, .int _ _⟩
        | sliceInf hp hn hr => exact absurd hc (by simp)
        | sliceEnd hp x => exact absurd hc (by simp)
      · cases e
    · cases e
  · cases e

theorem AH.set_self {h : AH} {id : Nat} {b : ABlk} (e : h.get id = some b) : h.set id b = h := by
  unfold AH.get at e
  unfold AH.set
  split at e
  · rename_i hlt
    have : h.bs.set (h.n - 1 - id) b = h.bs := by
      apply List.ext_getElem?
      intro k
      rw [List.getElem?_set]
      split
      · rename_i hk; subst hk
        rw [e, if_pos (List.getElem?_eq_some_iff.1 e).1]
      · rfl
    rw [if_pos hlt, this]
  · cases e

theorem copy_sound (r : R w0 σ h w) {argTypes : Array TypeId} {ty : TypeId} {d d' s s' v : Value} {h' : AH} (hd' : VR σ d d') (hs : VR σ s s') (e : copyE P h argTypes d s = some (v, h')) :
    ∃ w' v', R w0 σ h' w' ∧ (Builtin.copy_ argTypes ty #[d', s']).run P w = .ok v' w' ∧ VR σ v v' := by
  unfold copyE at e
  split at e
  · rename_i dT hT
    split at e
    · rename_i elem base dLen cap hd
      split at e
      · rename_i size hsz
        split at e
        · rename_i sLen news hsrc
          obtain ⟨news', S⟩ := src_sound r hs hsrc
          have hcells : (Builtin.firstCells size (Nat.min sLen dLen) s').run P w = .ok ⟨news'.take (Nat.min sLen dLen * size)⟩ w := S.cells _ (Nat.min_le_left _ _)
          split at e
          · cases e
            have hd2 : ∃ l c, d' = .slice none l c ∧ l = dLen := by cases hd' with | nilslice => exact ⟨_, _, rfl, rfl⟩
            obtain ⟨l, c, rfl, rfl⟩ := hd2
            refine ⟨w, _, r, ?_, .int _ _⟩
            have h0 : (#[Value.slice none l c, s'] : Array Value)[0]? = some (.slice none l c) := rfl
            have h1 : (#[Value.slice none l c, s'] : Array Value)[1]? = some s' := rfl
            simp only [Builtin.copy_, hT, h0, h1, Sem.run_bind, run_underlying' hd, Result.andThen_ok, S.lenOf, run_sizeOf' hsz, hcells, Sem.run_pure]
            rfl
          · rename_i b i
            simp only [Option.map_eq_some_iff] at e
            obtain ⟨h1, hw, hh⟩ := e
            cases hh
            have key : (∃ p, pl σ b = some p ∧ ∃ c', d' = .slice (some ⟨p.blk, p.off + i, none⟩) dLen c') ∨ (dLen = 0 ∧ ∃ p, pl σ b = some p ∧ ∃ x, d' = .slice (some x) 0 0) := by
              cases hd' with
              | slice hp _ => exact .inl ⟨_, hp, _, rfl⟩
              | sliceInf hp _ _ => exact .inl ⟨_, hp, _, rfl⟩
              | sliceEnd hp x => exact .inr ⟨rfl, _, hp, x, rfl⟩
            rcases key with ⟨p, hp, c', rfl⟩ | ⟨rfl, p, hp, x, rfl⟩
            case inr =>
              have h00 : Nat.min sLen 0 = 0 := Nat.min_zero _
              rw [h00] at hw hcells
              obtain ⟨w', hrun, r', _⟩ := r.writeN P hw (S.rel.take _) hp
              have hh1 : h' = h := by
                unfold Ev.writeN at hw
                split at hw
                · rename_i vs esz hg
                  split at hw
                  · cases hw
                    simp only [Nat.zero_mul, List.take_zero, Ev.setMany]
                    exact AH.set_self hg
                  · cases hw
                · cases hw
              subst hh1
              refine ⟨w, _, r, ?_, .int _ _⟩
              have h0 : (#[Value.slice (some x) 0 0, s'] : Array Value)[0]? = some (.slice (some x) 0 0) := rfl
              have h1 : (#[Value.slice (some x) 0 0, s'] : Array Value)[1]? = some s' := rfl
              have hcells' : (Builtin.firstCells size 0 s').run P w = .ok ⟨[]⟩ w := by rw [hcells]; simp
              have hst : (storeCells x [] : Sem Unit).run P w = .ok () w := by simp [storeCells]
              simp only [Builtin.copy_, hT, h0, h1, Sem.run_bind, run_underlying' hd, Result.andThen_ok, S.lenOf, run_sizeOf' hsz, h00, hcells', hst, Sem.run_pure]
              rfl
            obtain ⟨w', hrun, r', _⟩ := r.writeN P hw (S.rel.take _) hp
            refine ⟨w', _, r', ?_, .int _ _⟩
            have h0 : (#[Value.slice (some ⟨p.blk, p.off + i, none⟩) dLen c', s'] : Array Value)[0]? = some (.slice (some ⟨p.blk, p.off + i, none⟩) dLen c') := rfl
            have h1 : (#[Value.slice (some ⟨p.blk, p.off + i, none⟩) dLen c', s'] : Array Value)[1]? = some s' := rfl
            simp only [Builtin.copy_, hT, h0, h1, Sem.run_bind, run_underlying' hd, Result.andThen_ok, S.lenOf, run_sizeOf' hsz, hcells, hrun, Sem.run_pure]
            rfl
          · cases e
        · cases e
      · cases e
    · cases e
  · cases e

theorem max_sound : ∀ {l l' : List Value} {x x' v : Value}, VR σ x x' → VRs σ l l' → foldMax P Builtin.max2 x l = some v → ∀ w, ∃ v', (l'.foldlM Builtin.max2 x').run P w = .ok v' w ∧ VR σ v v'
  | _, _, x, x', v, hx, .nil, e, w => by cases e; exact ⟨x', by simp, hx⟩
  | _, _, x, x', v, hx, .cons hy ht, e, w => by
    unfold foldMax at e
    split at e
    · rename_i k a k' b
      cases hx; cases hy
      have hm : (Builtin.max2 (.int k a) (.int k' b)).run P w = .ok (.int k (if b > a then b else a)) w := rfl
      have hp : plainOp P (Builtin.max2 (.int k a) (.int k' b)) = some (.int k (if b > a then b else a)) := rfl
      rw [hp] at e
      simp only at e
      obtain ⟨v', hrun, hr⟩ := max_sound (.int k (if b > a then b else a)) ht e w
      exact ⟨v', by simp only [List.foldlM_cons, Sem.run_bind, hm, Result.andThen_ok, hrun], hr⟩
    · cases e

theorem min_sound : ∀ {l l' : List Value} {x x' v : Value}, VR σ x x' → VRs σ l l' → foldMax P Builtin.min2 x l = some v → ∀ w, ∃ v', (l'.foldlM Builtin.min2 x').run P w = .ok v' w ∧ VR σ v v'
  | _, _, x, x', v, hx, .nil, e, w => by cases e; exact ⟨x', by simp, hx⟩
  | _, _, x, x', v, hx, .cons hy ht, e, w => by
    unfold foldMax at e
    split at e
    · rename_i k a k' b
      cases hx; cases hy
      have hm : (Builtin.min2 (.int k a) (.int k' b)).run P w = .ok (.int k (if b < a then b else a)) w := rfl
      have hp : plainOp P (Builtin.min2 (.int k a) (.int k' b)) = some (.int k (if b < a then b else a)) := rfl
      rw [hp] at e
      simp only at e
      obtain ⟨v', hrun, hr⟩ := min_sound (.int k (if b < a then b else a)) ht e w
      exact ⟨v', by simp only [List.foldlM_cons, Sem.run_bind, hm, Result.andThen_ok, hrun], hr⟩
    · cases e

theorem R.touch (r : R w0 σ h w) {id : Nat} {b : ABlk} {p : Pl} {w' : World} (e : h.get id = some b) (hl : b.live = true) (hp : pl σ id = some p)
    (hs : w'.heap.size = w.heap.size) (ho : w'.os = w.os) (ht : w'.tape = w.tape) (hout : w'.output = w.output)
    (hk : ∀ k, k ≠ p.blk → w'.heap[k]? = w.heap[k]?) (hb : BR w0.ok σ w'.heap[p.blk]? b p) : R w0 σ h w' := by
  have := r.turn e hl hp hs ho ht hout hk hb (fun _ _ _ => live_lst hl)
  rwa [AH.set_self e] at this

theorem bytes_of : ∀ {l l' : List Value} {bs : List UInt8}, VRs σ l l' → bytesOf l = some bs → ∃ ns : List Int, l' = ns.map (Value.int .u8) ∧ bs = ns.map fun n => UInt8.ofNat n.toNat
  | _, _, _, .nil, e => by cases e; exact ⟨[], rfl, rfl⟩
  | _, _, _, .cons hv ht, e => by
    unfold bytesOf at e
    split at e
    · rename_i hh; cases hh
    · rename_i n l hh
      cases hh
      cases hv
      simp only [Option.map_eq_some_iff] at e
      obtain ⟨bs', hbs, rfl⟩ := e
      obtain ⟨ns, h1, h2⟩ := bytes_of ht hbs
      exact ⟨n :: ns, by rw [h1]; rfl, by rw [h2]; rfl⟩
    · cases e

theorem push_all : ∀ (ns : List Int) (s : ByteArray), ns.foldl (fun r n => r.push (UInt8.ofNat n.toNat)) s = ⟨s.data ++ (ns.map fun n => UInt8.ofNat n.toNat).toArray⟩
  | [], s => by simp
  | n :: ns, s => by
    rw [List.foldl_cons, push_all ns]
    simp [ByteArray.push]

theorem convert_sound (r : R w0 σ h w) {src dst : TypeId} {x x' v : Value} {h' : AH} (hx : VR σ x x') (e : convertE P h src dst x = some (v, h')) :
    ∃ σ' w' v', Ext σ σ' ∧ R w0 σ' h' w' ∧ (convert src dst x').run P w = .ok v' w' ∧ VR σ' v v' := by
  unfold convertE at e
  split at e
  · rename_i d k k' n hs hd
    cases e; cases hx
    refine ⟨σ, w, _, Ext.refl σ, r, ?_, .int _ _⟩
    simp only [convert, Sem.run_bind, run_underlying' hs, run_underlying' hd, Result.andThen_ok]
    cases d <;> rfl
  · rename_i d s hs hd
    cases e; cases hx
    refine ⟨σ, w, _, Ext.refl σ, r, ?_, .string _⟩
    simp only [convert, Sem.run_bind, run_underlying' hs, run_underlying' hd, Result.andThen_ok]
    cases d <;> rfl
  · rename_i el s hs hd
    cases hx
    split at e
    · rename_i hel
      cases e
      have hself : ∀ l : List UInt8, VRs σ (l.map fun b => Value.int .u8 b.toNat) (l.map fun b => Value.int .u8 b.toNat) := by
        intro l; induction l with
        | nil => exact .nil
        | cons b l ih => exact .cons (.int _ _) ih
      obtain ⟨capv, hcap, hcv⟩ : ∃ c, s.size ≤ c ∧ (Question.appendCap s.size 0 el).cut (w.tape w.drawn (.appendCap s.size 0 el)) = c := ⟨_, by simp only [Question.cut]; omega, rfl⟩
      obtain ⟨p, hpb, hpo, hpr, hpe, r'⟩ := new_sound r.drew el (hself s.data.toList) 1 _ (List.replicate (capv - s.size) (.int .u8 0)) rfl
      have hpn : pl (σ ++ [some p]) h.n = some p := get_new r p
      have hgn : (h.push (.cells (s.data.toList.map fun b => Value.int .u8 b.toNat) 1)).get h.n = some (.cells (s.data.toList.map fun b => Value.int .u8 b.toNat) 1) := by rw [AH.get_push h r.len]; simp
      have hsize : w.drew.heap.size = w.heap.size := rfl
      let C : Array Value := ⟨(s.data.toList.map fun b => Value.int .u8 b.toNat) ++ List.replicate (capv - s.size) (.int .u8 0)⟩
      have hC : C.size = capv := by simp [C]; omega
      have hblk : (w.drew.alloc (.cells C el)).heap[p.blk]? = some (.cells C el) := by rw [hpb]; exact Array.getElem?_push_size
      have hfz : ((w.drew.alloc (.cells C el)).freeze ⟨p.blk, C.size, none⟩ 1).heap[p.blk]? = some (.cells C el (C.size, C.size + 1)) := by
        unfold World.freeze
        rw [if_neg (by omega)]
        simp only [Array.getElem?_modify, if_true, hblk, Option.map_some, beq_self_eq_true, if_true]
      have r'' := r'.touch (w' := (w.drew.alloc (.cells C el)).freeze ⟨p.blk, C.size, none⟩ 1) hgn rfl hpn (by unfold World.freeze; rw [if_neg (by omega)]; simp) (by unfold World.freeze; rw [if_neg (by omega)]) (by unfold World.freeze; rw [if_neg (by omega)]) (by unfold World.freeze; rw [if_neg (by omega)]) (fun k hk => by
        unfold World.freeze
        rw [if_neg (by omega)]
        simp only [Array.getElem?_modify]
        rw [if_neg (fun hh => hk hh.symm)]) (by
        have hb := r'.br _ _ p hgn hpn
        obtain ⟨h1, h2, c, T, fz, h3, h4, h5, h6, h7⟩ := hb
        have h3' : some (Obj.cells C el) = some (.cells c T fz) := by rw [← hblk]; exact h3
        injection h3' with h3'
        injection h3' with e1 e2 e3
        rw [hfz]
        exact ⟨h1, h2, C, el, _, rfl, by rw [e1]; exact h4, h5, .inr (Nat.le_refl _), fun k v hk => by rw [e1]; exact h7 k v hk⟩)
      refine ⟨σ ++ [some p], _, .slice (some ⟨p.blk, p.off + 0, none⟩) s.size capv, Ext.snoc _ _, r'', ?_, .sliceInf hpn hcap ?_⟩
      · have hrow : ((s.data.map fun b => Value.int .u8 b.toNat) ++ Array.replicate (capv - s.size) (.int .u8 0) : Array Value) = C := by apply Array.ext'; simp [C]
        have hshape : (w.drew.alloc (.cells C el)).shape? w.heap.size = some (el, C.size) := by
          unfold World.shape?
          rw [← hsize, ← hpb, hblk]
        have hm : (markStringish ⟨w.heap.size, 0, none⟩).run P (w.drew.alloc (.cells C el)) = .ok () ((w.drew.alloc (.cells C el)).freeze ⟨w.heap.size, C.size, none⟩ 1) := by
          simp only [markStringish, Sem.run_bind, run_shape, hshape, Result.andThen_ok, run_freeze]
        have hsb : (Conv.stringToBytes el s).run P w = .ok (.slice (some ⟨w.heap.size, 0, none⟩) s.size capv) ((w.drew.alloc (.cells C el)).freeze ⟨w.heap.size, C.size, none⟩ 1) := by
          simp only [Conv.stringToBytes, Sem.run_bind, run_choose, Question.forced, Bool.false_eq_true, if_false, hcv, Result.andThen_ok, World.drew_eq, newRow, run_newObj, hrow, World.alloc_eq, World.size_drew, Sem.run_pure, hm]
        simp only [convert, Sem.run_bind, run_underlying' hs, run_underlying' hd, run_underlying' hel, Result.andThen_ok, hsb, hpb, hpo, hsize]
      · rw [hpe, hpr]; simp; omega
    · cases e
  · rename_i el0 el b i len cap hs hd
    split at e
    · rename_i vs esz hsd hel hg
      cases e
      simp only [Bool.and_eq_true, Nat.beq_eq, Nat.blt_eq] at hsd
      obtain ⟨rfl, hpos⟩ := hsd
      have key : ∃ p, pl σ b = some p ∧ ∃ c', x' = .slice (some ⟨p.blk, p.off + i, none⟩) len c' ∧ VR σ (.slice (some ⟨b, i, none⟩) len cap) x' := by
        cases hx with
        | slice hp hc => exact ⟨_, hp, _, rfl, .slice hp hc⟩
        | sliceInf hp hn hr => exact ⟨_, hp, _, rfl, .sliceInf hp hn hr⟩
        | sliceEnd hp x => omega
      obtain ⟨p, hp, c', rfl, hv⟩ := key
      have hb := r.br b _ p hg hp
      obtain ⟨h1, h2, c, T, fz, h3, h4, h5, h6, h7⟩ := hb
      have hshape : w.shape? p.blk = some (T, c.size) := by unfold World.shape?; rw [h3]
      have hm : (markStringish ⟨p.blk, p.off + i, none⟩).run P w = .ok () (w.freeze ⟨p.blk, c.size, none⟩ 1) := by
        simp only [markStringish, Sem.run_bind, run_shape, hshape, Result.andThen_ok, run_freeze]
      have r' : R w0 σ h (w.freeze ⟨p.blk, c.size, none⟩ 1) := by
        refine r.touch hg rfl hp (by unfold World.freeze; rw [if_neg (by omega)]; simp) (by unfold World.freeze; rw [if_neg (by omega)]) (by unfold World.freeze; rw [if_neg (by omega)]) (by unfold World.freeze; rw [if_neg (by omega)]) (fun k hk => by
          unfold World.freeze
          rw [if_neg (by omega)]
          simp only [Array.getElem?_modify]
          rw [if_neg (fun hh => hk hh.symm)]) ?_
        obtain ⟨lo, hi⟩ := fz
        have hfz : (w.freeze ⟨p.blk, c.size, none⟩ 1).heap[p.blk]? = some (.cells c T (if lo == hi then (c.size, c.size + 1) else (min lo c.size, max hi (c.size + 1)))) := by
          unfold World.freeze
          rw [if_neg (by omega)]
          simp only [Array.getElem?_modify, if_true, h3, Option.map_some]
        rw [hfz]
        refine ⟨h1, h2, c, T, _, rfl, h4, h5, ?_, h7⟩
        simp only at h6
        by_cases hl : lo = hi
        · subst hl; simp
        · have : (lo == hi) = false := by simp [hl]
          simp only [this, Bool.false_eq_true, if_false]
          right
          rcases h6 with h6 | h6
          · exact absurd h6 hl
          · omega
      refine ⟨σ, _, _, Ext.refl σ, r', ?_, hv⟩
      have hbq : (src == src) = true := by simp
      rw [hs] at hd
      cases hd
      simp only [convert, Sem.run_bind, run_underlying' hs, run_underlying' hel, Result.andThen_ok, hbq, hm, Sem.run_pure]
    · cases e
  · rename_i el a len cap hs hd
    split at e
    · rename_i hel
      split at e
      · cases e; cases hx
        refine ⟨σ, w, _, Ext.refl σ, r, ?_, .string _⟩
        simp only [convert, Sem.run_bind, run_underlying' hs, run_underlying' hd, run_underlying' hel, Result.andThen_ok]
        rfl
      · rename_i b i
        split at e
        · rename_i l hl
          simp only [Option.map_eq_some_iff] at e
          obtain ⟨bs, hbs, hh⟩ := e
          cases hh
          have key : (∃ p, pl σ b = some p ∧ ∃ c', x' = .slice (some ⟨p.blk, p.off + i, none⟩) len c') ∨ (len = 0 ∧ ∃ x, x' = .slice (some x) 0 0) := by
            cases hx with
            | slice hp _ => exact .inl ⟨_, hp, _, rfl⟩
            | sliceInf hp _ _ => exact .inl ⟨_, hp, _, rfl⟩
            | sliceEnd hp x => exact .inr ⟨rfl, x, rfl⟩
          rcases key with ⟨p, hp, c', rfl⟩ | ⟨rfl, x, rfl⟩
          case inr =>
            have : l = [] := by
              unfold Ev.readN at hl
              split at hl
              · split at hl
                · cases hl; simp
                · cases hl
              · cases hl
            subst this
            cases hbs
            refine ⟨σ, w, .string ⟨#[]⟩, Ext.refl σ, r, ?_, .string _⟩
            have := run_bytesToString (P := P) w x 0 0 [] (by simp [loadCells, loadCellsFrom])
            rw [run_convert_bytes_string w src dst el _ 0 0 hs hel hd, this]
            rfl
          obtain ⟨l', hrun, hv, hlen, _⟩ := r.readN (P := P) hl hp
          refine ⟨σ, w, .string ⟨bs.toArray⟩, Ext.refl σ, r, ?_, .string _⟩
          obtain ⟨ns, h1, h2⟩ := bytes_of hv hbs
          have := run_bytesToString (P := P) w ⟨p.blk, p.off + i, none⟩ len c' ns (by rw [hrun, h1])
          rw [run_convert_bytes_string w src dst el _ len c' hs hel hd, this, push_all, h2]
          simp
        · cases e
      · cases e
    · cases e
  · cases e

end
end Go.Proofs.YtmcmaklilfgdiaaGreat.Ev
