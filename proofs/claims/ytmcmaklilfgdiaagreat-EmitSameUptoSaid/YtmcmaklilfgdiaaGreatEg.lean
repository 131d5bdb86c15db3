/- Each operation of the evaluator is the machine's: append, copy, len, conversions. -/
import Derived.Test.YtmcmaklilfgdiaaGreatEf
namespace Go.Proofs.YtmcmaklilfgdiaaGreat.Ev
open Go Go.RowKit

section
variable {P : Program} {σ : Sg} {w0 : Bs} {h : AH} {w : World}

/-- what is read of a source, in a world and in the next one -/
structure Src (P : Program) (σ : Sg) (w : World) (size n : Nat) (news : List Value) (x' : Value) (news' : List Value) : Prop where
  rel : VRs σ news news'
  len : news.length = n * size
  lenOf : ∀ w, (Builtin.lenOf x').run P w = .ok n w
  cells : ∀ m, m ≤ n → (Builtin.firstCells size m x').run P w = .ok ⟨news'.take (m * size)⟩ w
  cells' : ∀ m, m ≤ n → (Builtin.firstCells size m x').run P w.drew = .ok ⟨news'.take (m * size)⟩ w.drew

theorem load_take (w : World) (a : Addr) (l : List Value) (k : Nat) (hk : k ≤ l.length) (hc : ∀ j v, l[j]? = some v → w.cell? (a.add j) = some v) :
    (loadCells a k).run P w = .ok ⟨l.take k⟩ w := by
  have hl : (l.take k).length = k := by simp; omega
  have := run_loadCells_list (P := P) w a (l.take k) (fun j v hv => hc j v (by
    rw [List.getElem?_take] at hv; split at hv
    · exact hv
    · cases hv))
  rw [hl] at this; exact this

theorem src_sound (r : R w0 σ h w) {size n : Nat} {x x' : Value} {news : List Value} (hx : VR σ x x') (e : srcE h size x = some (n, news)) :
    ∃ news', Src P σ w size n news x' news' := by
  unfold srcE at e
  split at e
  · cases e; cases hx
    exact ⟨[], .nil, by simp, fun w => by simp [Builtin.lenOf], fun m _ => by simp [Builtin.firstCells], fun m _ => by simp [Builtin.firstCells]⟩
  · rename_i b i k cap
    simp only [Option.map_eq_some_iff] at e
    obtain ⟨l, hl, hh⟩ := e
    cases hh
    have key : (∃ p, pl σ b = some p ∧ ∃ c', x' = .slice (some ⟨p.blk, p.off + i, none⟩) n c') ∨ (n = 0 ∧ ∃ x, x' = .slice (some x) 0 0) := by
      cases hx with
      | slice hp _ => exact .inl ⟨_, hp, _, rfl⟩
      | sliceInf hp _ _ => exact .inl ⟨_, hp, _, rfl⟩
      | sliceEnd hp x => exact .inr ⟨rfl, x, rfl⟩
    rcases key with ⟨p, hp, c', rfl⟩ | ⟨rfl, x, rfl⟩
    case inr =>
      have : news = [] := by
        unfold Ev.readN at hl
        split at hl
        · split at hl
          · cases hl; simp
          · cases hl
        · cases hl
      subst this
      refine ⟨[], .nil, by simp, fun w => by simp [Builtin.lenOf], fun m hm => ?_, fun m hm => ?_⟩
      · obtain rfl : m = 0 := by omega
        simp [Builtin.firstCells, loadCells, loadCellsFrom]
      · obtain rfl : m = 0 := by omega
        simp [Builtin.firstCells, loadCells, loadCellsFrom]
    obtain ⟨l', _, hv, hlen, hcell⟩ := r.readN (P := P) hl hp
    have hlen' : l'.length = n * size := by rw [← hv.length]; exact hlen
    have hc : ∀ j v, l'[j]? = some v → w.cell? ((⟨p.blk, p.off + i, none⟩ : Addr).add j) = some v := fun j v hj => by rw [Addr.add_eq]; exact hcell j v hj
    refine ⟨l', hv, hlen, fun w => by simp [Builtin.lenOf], fun m hm => ?_, fun m hm => ?_⟩
    · exact load_take w _ l' _ (by rw [hlen']; exact Nat.mul_le_mul_right _ hm) hc
    · exact load_take w.drew _ l' _ (by rw [hlen']; exact Nat.mul_le_mul_right _ hm) hc
  · rename_i s
    split at e
    · rename_i hs1
      simp only [Nat.beq_eq] at hs1
      subst hs1
      cases e; cases hx
      have hself : ∀ l : List UInt8, VRs σ (l.map fun b => Value.int .u8 b.toNat) (l.map fun b => Value.int .u8 b.toNat) := by
        intro l; induction l with
        | nil => exact .nil
        | cons b l ih => exact .cons (.int _ _) ih
      have hcut : ∀ m, m ≤ s.size → (((s.extract 0 m).data.map fun b => Value.int .u8 b.toNat) : Array Value) = ⟨(s.data.toList.map fun b => Value.int .u8 b.toNat).take (m * 1)⟩ := by
        intro m hm
        apply Array.ext'
        simp [List.map_take]
      refine ⟨_, hself _, by simp, fun w => by simp [Builtin.lenOf], fun m hm => ?_, fun m hm => ?_⟩
      · simp only [Builtin.firstCells, Sem.run_pure, hcut m hm]
      · simp only [Builtin.firstCells, Sem.run_pure, hcut m hm]
    · cases e
  · cases e

/-- what an append appends: by the second argument's type -/
structure App (P : Program) (σ : Sg) (w : World) (elem : TypeId) (z : Value) (size n : Nat) (argTypes : Array TypeId) (x' : Value) (news news' : List Value) : Prop where
  rel : VRs σ news news'
  len : news.length = n * size
  way : (∃ xt d, argTypes[1]? = some xt ∧ P.underlying xt = some d ∧ (∀ k, d ≠ .int k) ∧ Src P σ w size n news x' news') ∨
    (∃ xt k k', argTypes[1]? = some xt ∧ P.underlying xt = some (.int k) ∧ x' = .int k' (n : Int) ∧ n ≤ 1048576 ∧ news' = reps z.cells.toList n)

theorem app_sound (r : R w0 σ h w) {elem : TypeId} {z : Value} {size n : Nat} {argTypes : Array TypeId} {x x' : Value} {news : List Value} (hz : zeroE P elem = some z) (hzs : z.cells.size = size) (hx : VR σ x x')
    (e : appSrc P h argTypes (cellsL z) size x = some (n, news)) : ∃ news', App P σ w elem z size n argTypes x' news news' := by
  have hzc := (zero_closed (σ := σ) hz).cells
  unfold appSrc at e
  split at e
  · cases e
  · rename_i xt hxt
    split at e
    · cases e
    · rename_i k hd
      split at e
      · rename_i k' l
        cases hx
        split at e
        · rename_i hq
          cases e
          refine ⟨reps z.cells.toList l.toNat, VRs.reps hzc _, ?_, .inr ⟨xt, k, k', hxt, hd, by rw [Int.toNat_of_nonneg hq.1], by omega, rfl⟩⟩
          rw [reps_length, hzc.length, Array.length_toList, hzs]
        · cases e
      · cases e
    · rename_i d hk hd
      obtain ⟨news', hs⟩ := src_sound (P := P) r hx e
      exact ⟨news', hs.rel, hs.len, .inl ⟨xt, d, hxt, hd, fun k hh => hk k hh, hs⟩⟩

theorem run_grow {sT ty elem : TypeId} {i : TypeInfo} {z : Value} {size n len cap : Nat} {argTypes : Array TypeId} {base : Option Addr} {x' : Value} {news news' old' : List Value}
    (hT : argTypes[0]? = some sT) (hd : P.underlying sT = some (.slice elem)) (hi : P.info? elem = some i) (hz : zeroE P elem = some z) (hzs : z.cells.size = size) (hsi : i.size = size)
    (A : App P σ w elem z size n argTypes x' news news') (hgt : ¬ (len + n ≤ cap)) (hn : len + n ≤ 1048576) (hb : i.bytes ≤ 65536) (hpos : 0 < size)
    (hold : (Builtin.firstCells size len (.slice base len cap)).run P w.drew = .ok ⟨old'⟩ w.drew) :
    ∃ newCap, len + n ≤ newCap ∧ (Builtin.append_ argTypes ty #[.slice base len cap, x']).run P w =
      .ok (.slice (some ⟨w.heap.size, 0, none⟩) (len + n) newCap) (w.drew.alloc (.cells ⟨(old' ++ news') ++ reps z.cells.toList (newCap - (len + n))⟩ elem)) := by
  have hsz : sizeE P elem = some size := by simp [sizeE, hi, hsi]
  have hnc := nextslicecap_le (need := len + n) (old := cap) (by omega)
  have hbig : ¬ (Builtin.nextslicecap (len + n) cap * i.bytes > 2 ^ 48) := by
    have := Nat.mul_le_mul hnc hb
    have h2 : 2 * (len + n) * 65536 ≤ 2 * 1048576 * 65536 := Nat.mul_le_mul_right _ (by omega)
    omega
  have hmax : ¬ (((len + n : Nat) : Int) > IntKind.i64.max) := by
    have : IntKind.i64.max = 9223372036854775807 := rfl
    rw [this]; omega
  refine ⟨(Question.appendCap (len + n) cap elem).cut (w.tape w.drawn (.appendCap (len + n) cap elem)), by simp only [Question.cut]; omega, ?_⟩
  have hrest : ∀ k, Builtin.zeroCells z.cells k = ⟨reps z.cells.toList k⟩ := zeroCells_eq z.cells
  rcases A.way with ⟨xt, d, hxt, hxd, hint, S⟩ | ⟨xt, k, k', hxt, hxd, rfl, hle, rfl⟩
  · have hnew : (Builtin.firstCells size n x').run P w.drew = .ok ⟨news'⟩ w.drew := by
      have := S.cells' n (Nat.le_refl n)
      rwa [List.take_of_length_le (by rw [← S.rel.length, S.len]; omega)] at this
    have hm : (match d with | .int _ => true | _ => false) = false := by cases d <;> first | rfl | exact absurd rfl (hint _)
    have h0 : (#[Value.slice base len cap, x'] : Array Value)[0]? = some (.slice base len cap) := rfl
    have h1 : (#[Value.slice base len cap, x'] : Array Value)[1]? = some x' := rfl
    simp only [Builtin.append_, hT, hxt, h0, h1, Sem.run_bind, run_underlying' hd, run_underlying' hxd, Result.andThen_ok, run_sizeOf' hsz, Sem.run_pure, hm, S.lenOf, Bool.false_eq_true, if_false, Sem.run_ite,
      if_neg hgt, false_or, run_typeInfo' hi, hmax, false_and, hbig, run_choose, Question.forced, World.drew_eq, run_askRoom, hold, Bool.not_false, if_true, hnew, run_zero' hz, hrest, newRow, run_newObj, World.alloc_eq, World.size_drew, List.append_toArray]
  · have h0 : ∀ y, (#[Value.slice base len cap, y] : Array Value)[0]? = some (.slice base len cap) := fun _ => rfl
    have h1 : ∀ y, (#[Value.slice base len cap, y] : Array Value)[1]? = some y := fun _ => rfl
    have hw : IntKind.i64.wrap (n : Int) = (n : Int) := wrap_small (by omega) (by omega)
    have hn0 : ¬ ((n : Int) < 0) := by omega
    have hnb : ¬ ((n : Int) * (i.bytes : Int) > 2 ^ 48) := by
      have h1 : (n : Int) * (i.bytes : Int) ≤ 1048576 * 65536 := Int.mul_le_mul (by omega) (by omega) (by omega) (by omega)
      omega
    by_cases hns : n * size = 0
    · have hr0 : reps z.cells.toList n = [] := reps_nil_of _ _ (by rw [Array.length_toList, hzs]; exact hns)
      simp only [Builtin.append_, hT, hxt, h0, h1, Sem.run_bind, run_underlying' hd, run_underlying' hxd, Result.andThen_ok, run_sizeOf' hsz, Sem.run_pure, Bool.false_eq_true, if_false, Sem.run_ite, asInt, asIntOf, hw, hn0, hnb, Int.toNat_natCast,
        if_neg hgt, true_or, and_true, run_typeInfo' hi, hmax, false_and, hbig, run_choose, Question.forced, World.drew_eq, run_askRoom, hold, Bool.not_true, if_true, hns, run_zero' hz, hrest, newRow, run_newObj, World.alloc_eq, World.size_drew, List.append_toArray, hr0]
    · simp only [Builtin.append_, hT, hxt, h0, h1, Sem.run_bind, run_underlying' hd, run_underlying' hxd, Result.andThen_ok, run_sizeOf' hsz, Sem.run_pure, Bool.false_eq_true, if_false, Sem.run_ite, asInt, asIntOf, hw, hn0, hnb, Int.toNat_natCast,
        if_neg hgt, true_or, and_true, run_typeInfo' hi, hmax, false_and, hbig, run_choose, Question.forced, World.drew_eq, run_askRoom, hold, Bool.not_true, if_true, if_neg hns, run_zero' hz, hrest, newRow, run_newObj, World.alloc_eq, World.size_drew, List.append_toArray]

end
end Go.Proofs.YtmcmaklilfgdiaaGreat.Ev
