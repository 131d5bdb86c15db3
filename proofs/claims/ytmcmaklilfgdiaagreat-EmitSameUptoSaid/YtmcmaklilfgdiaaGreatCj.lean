/- The law for modules as plain data: it answers yes. -/
import Derived.Test.YtmcmaklilfgdiaaGreatTg
import Derived.Test.YtmcmaklilfgdiaaGreatCg
import Derived.Test.YtmcmaklilfgdiaaGreatCh
import Derived.Test.YtmcmaklilfgdiaaGreatCi
namespace Go.Proofs.YtmcmaklilfgdiaaGreat
open Go Go.RowKit Ev

/-- the chapter's examples come to true -/
theorem awake_ok : K1 Tryz.prog gs 6 [] (.bool true) :=
  K1_of_calls fun w => comes_true mixedP noGoP (n := 3000) (by kernel_rfl) w

/-- two modules are the same just if the document says so -/
theorem law_ok (a b : GModule) (ha : OkM a) (hb : OkM b) : K1 Tryz.prog gs 4 [encM a, encM b] (.bool true) := by
  refine K1_of (T := tab4) (c := bodyOf Tryz.f4) mixedP noGoP Tryz.func4 (by kernel_rfl) 4000 ?_
  rw [show ([encM a, encM b] : List Value).length = 2 from rfl, t4]
  refine ⟨_, awake_ok, _, few_ok a ha, bif_c (fun _ => qk _ _ rfl) fun _ => ⟨_, few_ok b hb, bif_c (fun _ => qk _ _ rfl) fun _ => ⟨_, eq11 a b ha, _, plainM_ok a ha, _, plainM_ok b hb, _, eq12 a b ha hb, ?_⟩⟩⟩
  refine bif_t (by simp) ⟨_, eq11 a a ha, qk _ _ (eqB_self a)⟩
end Go.Proofs.YtmcmaklilfgdiaaGreat
