/- Symbolic runs: what a function answers, out of a run of its code. -/
import Derived.Test.YtmcmaklilfgdiaaGreatSj
namespace Go.Proofs.YtmcmaklilfgdiaaGreat.Ev
open Go Go.RowKit

/-- the end of a run: the value, told without the memory -/
def QK (r : Value) : Value → List ABlk → Prop := fun v _ => v = r ∧ cvV r = true

section
variable {T : Tab} {P : Program} {gs : List ABlk}

theorem g0_fresh {w : World} {κ : Nat → Nat → Option Value} (g : GlobOK gs w) : ∀ U, G0 gs ((Bs.fresh w κ).at U) := fun U => ⟨g, fun k hk hh => by
  have h1 := g.2.1
  have h2 : w.heap.size ≤ k := hh
  omega⟩

/-- What a function answers. -/
theorem K1_of (hm : P.follows .mixedOrders = true) (hN : noGo P) {f : FuncId} {fn : Func} {c : Code} (hf : P.funcs[f]? = some fn) (hb : fn.body = some c) {args : List Value} {v : Value} (n : Nat)
    (e : SC T P gs (QK v) n [.code c] ⟨f, args ++ List.replicate (fn.ntmps - args.length) undef, [], none⟩ (AH.start gs)) : K1 P gs f args v := by
  intro κ w args' hg hk hcr cs
  have r := R.start w hk gs hg.1 (fun g b hgb => by
    obtain ⟨h1, h2⟩ := hg.2.2 κ g b hgb
    refine ⟨?_, h2⟩
    rcases h1 with rfl | ⟨vs, rfl⟩ <;> rfl)
  have hv : VRs (plStart gmax κ) args args'.toList := CRs.toVRs (σ := plStart gmax κ) hcr
  have hlen : args.length = args'.size := by rw [hv.length, Array.length_toList]
  let b : Frame := { (default : Frame) with fn := f, kind := .normal, roundOf := none }
  have henter : Frame.enter P f args' .normal = mk b (args' ++ Array.replicate (fn.ntmps - args'.size) undef) [] [.code c] := by
    simp [Frame.enter, mk, hf, hb, b]
  have hfr : FR (plStart gmax κ) ⟨f, args ++ List.replicate (fn.ntmps - args.length) undef, [], none⟩ b (args' ++ Array.replicate (fn.ntmps - args'.size) undef) [] := by
    refine ⟨rfl, ?_, .nil, trivial⟩
    simp only [Array.toList_append, Array.toList_replicate, hlen]
    exact hv.append (VRs.replicate (undef_VR _) _)
  have hrun := (SC_ok (w0 := Bs.fresh w κ) hm hN (g0_fresh hg) (fun _ h => h) n _ _ _ e rfl).1 (by simp [It.still])
  obtain ⟨u, h', σ', w', v', fr, ⟨q1, q2⟩, k2, k3, k4, k5, k6, k7, k8, k9, fn', k10, k11⟩ := hrun _ w b _ cs r hfr (.inl rfl)
  have hcv : CR σ'.kp v v' := by
    rw [q1] at k4
    exact cvV_CR q2 k4
  refine ⟨.returned v', w', fr, ⟨σ'.kp, v', rfl, hcv, k3.1, k2.keep, fun b i u hu => ?_, ⟨k2.below.os, k2.below.tape, k2.below.output, k2.below.size, fun k hk2 => k2.below.block k (fun (hh : w.heap.size ≤ k) => by omega)⟩⟩, ?_, k9, k6, k7, k8, fn', k10, k11⟩
  · rcases k2.kpn b i u hu with hh | hh
    · exact .inl hh
    · exact .inr hh
  · rw [henter]; exact k5

/-- From a loop's head on. -/
theorem LoopG_of (hm : P.follows .mixedOrders = true) (hN : noGo P) {Q : Value → List ABlk → Prop} {live : List Tmp} {its : List It} {f : FuncId} {ts : List Value} {h : AH} (n : Nat) (hst : its.all It.still = true)
    (e : ∀ J : Nat → Value, SC T P gs Q n its ⟨f, mergeJ live J 0 ts, [], none⟩ h) : LoopG P gs T.m live its ⟨f, ts, [], none⟩ h Q :=
  ⟨fun J w0 g0 hun => (SC_ok hm hN g0 hun n its _ h (e J) rfl).1 (fun x hx => List.all_eq_true.1 hst x hx)⟩

/-- a call that is known outright -/
theorem K1_of_calls {f : FuncId} {b : Bool} (h : ∀ w, Calls P f #[] w fun e w' => e = .returned (.bool b) ∧ Below w.heap.size w w') : K1 P gs f [] (.bool b) := by
  intro κ w args' hg hk hcr
  have : args' = #[] := by
    obtain ⟨l⟩ := args'
    cases hcr; rfl
  subst this
  refine (h w).mono ?_
  rintro e w' ⟨rfl, hb⟩
  exact ⟨κ, .bool b, rfl, .bool b, fun _ _ _ hh => hh, fun b i u hu => by rw [cell_of (hb.block b (kept_lt (hk b i u hu))) i]; exact hk b i u hu, fun _ _ _ hu => .inl hu, hb⟩

/-- a call's answer, for a value without addresses -/
theorem K1.calls {f : FuncId} {args : List Value} {b : Bool} (k : K1 P gs f args (.bool b)) {κ : Nat → Nat → Option Value} {w : World} {args' : Array Value} (hg : GlobOK gs w) (hk : Kept κ w) (hcr : CRs κ args args'.toList) :
    Calls P f args' w fun e w' => e = .returned (.bool b) ∧ Below w.heap.size w w' := by
  refine (k κ w args' hg hk hcr).mono ?_
  rintro e w' ⟨κ', v', rfl, h1, _, _, _, h5⟩
  cases h1
  exact ⟨rfl, h5⟩

end
end Go.Proofs.YtmcmaklilfgdiaaGreat.Ev
