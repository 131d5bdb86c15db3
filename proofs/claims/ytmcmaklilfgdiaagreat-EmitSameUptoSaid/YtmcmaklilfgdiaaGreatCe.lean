/- What the document's comparisons need. -/
import Derived.Test.YtmcmaklilfgdiaaGreatCd
import Derived.Test.YtmcmaklilfgdiaaGreatTd
import Derived.Laws.Strings
namespace Go.Proofs.YtmcmaklilfgdiaaGreat
open Go Go.RowKit Ev

theorem eqB_split {α : Type} {a b : List α} {k : Nat} (ha : k < a.length) (hb : k < b.length) : eqB (a.drop k) (b.drop k) = (eqB a[k] b[k] && eqB (a.drop (k + 1)) (b.drop (k + 1))) := by
  rw [List.drop_eq_getElem_cons ha, List.drop_eq_getElem_cons hb, eqB_cons]
/-- two lists of one length, told one by one -/
theorem pairs {α : Type} (a b : List α) (hab : a.length = b.length) (L : Nat → Prop) (End Bad : Prop) (h1 : End → L a.length)
    (h2 : ∀ k (ha : k < a.length) (hb : k < b.length), (eqB a[k] b[k] = true → L (k + 1)) → (eqB a[k] b[k] = false → Bad) → L k)
    (hE : eqB a b = true → End) (hB : eqB a b = false → Bad) : L 0 := by
  have main : ∀ n k, n + k = a.length → (eqB (a.drop k) (b.drop k) = true → End) → (eqB (a.drop k) (b.drop k) = false → Bad) → L k := by
    intro n
    induction n with
    | zero =>
      intro k hk hE hB
      rw [show k = a.length by omega]
      refine h1 (hE ?_)
      rw [List.drop_of_length_le (by omega), List.drop_of_length_le (by omega)]
      exact eqB_self _
    | succ n ih =>
      intro k hk hE hB
      have ha : k < a.length := by omega
      have hb : k < b.length := by omega
      rw [eqB_split ha hb] at hE hB
      refine h2 k ha hb (fun e => ?_) (fun e => hB (by rw [e]; rfl))
      rw [e, Bool.true_and] at hE hB
      exact ih (k + 1) (by omega) hE hB
  exact main a.length 0 (by omega) hE hB

theorem getK {α : Type} (enc : α → Value) {a : List α} {k : Nat} (h : k < a.length) : (List.map enc a)[Int.toNat (k : Int)]? = some (enc a[k]) := by
  simp [h]
theorem wrapS' {k n : Nat} (h : k < n) (hn : n ≤ 1048576) : IntKind.wrap IntKind.i64 ((k : Int) + 1) = ((k + 1 : Nat) : Int) := wrapS (by omega)

/-- bytes, as a string -/
def bsOf (l : List Int) : ByteArray := ⟨(l.map fun n => UInt8.ofNat n.toNat).toArray⟩
theorem bytesOf_u8 : ∀ l : List Int, bytesOf (List.map u8 l) = some (bsOf l).data.toList
  | [] => rfl
  | x :: l => by
    rw [List.map_cons, bytesOf, bytesOf_u8 l]
    simp [bsOf]
theorem bsOf_eq : ∀ {a b : List Int}, (∀ x ∈ a, 0 ≤ x ∧ x ≤ 255) → (∀ x ∈ b, 0 ≤ x ∧ x ≤ 255) → ((bsOf a).toList == (bsOf b).toList) = eqB a b := by
  have main : ∀ {a b : List Int}, (∀ x ∈ a, 0 ≤ x ∧ x ≤ 255) → (∀ x ∈ b, 0 ≤ x ∧ x ≤ 255) → a.map (fun n => UInt8.ofNat n.toNat) = b.map (fun n => UInt8.ofNat n.toNat) → a = b := by
    intro a
    induction a with
    | nil => intro b _ _ h; simpa using h.symm
    | cons x a ih =>
      intro b ha hb h
      cases b with
      | nil => simp at h
      | cons y b =>
        simp only [List.map_cons, List.cons.injEq] at h
        obtain ⟨h1, h2⟩ := h
        have hx := ha x (by simp)
        have hy := hb y (by simp)
        have e : x.toNat = y.toNat := by
          have := congrArg UInt8.toNat h1
          simp only [UInt8.toNat_ofNat'] at this
          omega
        rw [show x = y by omega, ih (fun z hz => ha z (by simp [hz])) (fun z hz => hb z (by simp [hz])) h2]
  intro a b ha hb
  rw [ByteArray.toList_eq, ByteArray.toList_eq]
  refine eqB_of ?_
  simp only [bsOf, beq_iff_eq]
  exact ⟨main ha hb, fun h => by rw [h]⟩
theorem okEq {a b : List Int} (ha : okB a) (hb : okB b) : ((bsOf a).toList == (bsOf b).toList) = eqB a b := bsOf_eq ha.2 hb.2

theorem impB2 (x y : GImport) : (x.module == y.module && (x.name == y.name && (x.kind == y.kind && (x.ty == y.ty && ((x.limits.min == y.limits.min && (x.limits.max == y.limits.max && (x.limits.has == y.limits.has && true))) && (x.value == y.value && (x.mut_ == y.mut_ && true))))))) = eqB x y := by
  refine eqB_of ?_
  obtain ⟨a1, a2, a3, a4, ⟨b1, b2, b3⟩, a5, a6⟩ := x
  obtain ⟨c1, c2, c3, c4, ⟨d1, d2, d3⟩, c5, c6⟩ := y
  simp [and_assoc, ba_beq]
theorem cellB2 (x y : GCell) : eqB x y = (decide (x.value = y.value) && ((x.mut_ == y.mut_) && eqB x.init y.init)) := by
  cases x; cases y; rw [Bool.eq_iff_iff]; simp [eqB]
/-- the last test of a round -/
theorem by_l {c : Bool} {Y Z : Prop} (hy : c = true → Y) (hz : c = false → Z) : bif !c then Z else Y := by
  cases c with
  | false => exact hz rfl
  | true => exact hy rfl
end Go.Proofs.YtmcmaklilfgdiaaGreat
