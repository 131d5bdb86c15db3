/- Equality of data, as the program tells it. -/
import Derived.Test.YtmcmaklilfgdiaaGreatTb
import Derived.Test.YtmcmaklilfgdiaaGreatTc
import Derived.Test.YtmcmaklilfgdiaaGreatCa
namespace Go.Proofs.YtmcmaklilfgdiaaGreat
open Go Go.RowKit Ev

open Classical in
/-- are two data the same? -/
noncomputable def eqB {α : Type} (a b : α) : Bool := decide (a = b)
theorem eqB_self {α : Type} (a : α) : eqB a a = true := by simp [eqB]
theorem eqB_iff {α : Type} {a b : α} : eqB a b = true ↔ a = b := by simp [eqB]
theorem eqB_ne {α : Type} {a b : α} (h : a ≠ b) : eqB a b = false := by simp [eqB, h]
theorem eqB_of {α : Type} {a b : α} {c : Bool} (h : c = true ↔ a = b) : c = eqB a b := by
  rw [Bool.eq_iff_iff, eqB_iff]; exact h
theorem eqB_cons {α : Type} (x y : α) (a b : List α) : eqB (x :: a) (y :: b) = (eqB x y && eqB a b) := by
  rw [Bool.eq_iff_iff, Bool.and_eq_true, eqB_iff, eqB_iff, eqB_iff]; simp
theorem eqB_len {α : Type} {a b : List α} (h : (!decide ((a.length : Int) = (b.length : Int))) = true) : eqB a b = false := by
  apply eqB_ne; intro hh; subst hh; simp at h
theorem len_of {α : Type} {a b : List α} (h : (!decide ((a.length : Int) = (b.length : Int))) = false) : a.length = b.length := by
  simp at h; omega
theorem ne_of {α : Type} {x y : α} {c : Bool} (e : c = eqB x y) (h : (!c) = true) (s u : List α) : eqB (x :: s) (y :: u) = false := by
  rw [eqB_cons, ← e]; simp at h; simp [h]
theorem eq_of {α : Type} {x y : α} {c : Bool} (e : c = eqB x y) (h : (!c) = false) (s u : List α) : eqB (x :: s) (y :: u) = eqB s u := by
  rw [eqB_cons, ← e]; simp at h; simp [h]

theorem intB {x y : Int} : decide (x = y) = eqB x y := eqB_of (by simp)
theorem ba_beq (a b : ByteArray) : (a == b) = true ↔ a = b := by
  cases a with | mk a => cases b with | mk b =>
  have e : ((ByteArray.mk a) == (ByteArray.mk b)) = (a == b) := rfl
  rw [e]; simp
theorem limB (x y : GLimits) : (x.min == y.min && (x.max == y.max && (x.has == y.has && true))) = eqB x y := by
  refine eqB_of ?_
  cases x; cases y; simp
theorem expB (x y : GExport) : (x.name == y.name && (x.kind == y.kind && (x.index == y.index && true))) = eqB x y := by
  refine eqB_of ?_
  cases x; cases y; simp [ba_beq]
theorem impB (x y : GImport) : (x.module == y.module && (x.name == y.name && (x.kind == y.kind && (x.ty == y.ty && (x.limits.min == y.limits.min && (x.limits.max == y.limits.max && (x.limits.has == y.limits.has && true)) && (x.value == y.value && (x.mut_ == y.mut_ && true) && true)))))) = eqB x y := by
  refine eqB_of ?_
  obtain ⟨a1, a2, a3, a4, ⟨b1, b2, b3⟩, a5, a6⟩ := x
  obtain ⟨c1, c2, c3, c4, ⟨d1, d2, d3⟩, c5, c6⟩ := y
  simp [and_assoc, ba_beq]
end Go.Proofs.YtmcmaklilfgdiaaGreat
