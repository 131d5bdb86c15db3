/- The law EmitSame holds of every two modules whose reading is of bulk at most 1048576: it answers true, and changes nothing; no other condition. -/
import Derived.Test.YtmcmaklilfgdiaaGreatRows
import Derived.Test.YtmcmaklilfgdiaaGreatCk
import Derived.WalkKit
import Derived.ProofKit
import Derived.OpenShut
import Derived.JoinedCond
import Derived.Carry
namespace Go.Proofs.YtmcmaklilfgdiaaGreat.emitSame
open Go Go.ChangeShapes Go.WideShapes Go.ChangeAt Go.RowKit Go.Proofs.YtmcmaklilfgdiaaGreat.Ev

theorem own : ownKnob Tryz.prog.godebug = none := by kernel_rfl

section
variable {H : Type} {enc : TypeId × Value → H} {P : Program}
/-- nothing that was there has turned: the law's post-condition, argument by argument -/
theorem post_of_below {f : Func} {s : ChangeSpec} {apart fresh handsOn again : Bool} {W W' : World} {args : Array Value} {v : Value} {ds gg : List (DataW H)} {before pa pv : List MemPlace}
    (hW : DataW.Whole enc P f.params.toList s.vars apart W args.toList ds gg before)
    (hres : ∀ (b : Nat) (sp : Nat → Bool) (hd : Bool), DataW.TrodAll enc P W' b sp hd f.resultTypes.toList (v.resultList f.resultTypes.size) (s.fn H (ds ++ gg)).results [])
    (hargs : ∀ sp : Nat → Bool, (∀ p ∈ before, sp p.block = true) → DataW.TrodAll enc P W' 0 sp true f.params.toList args.toList (s.fn H (ds ++ gg)).args pa)
    (hvars : ∀ sp : Nat → Bool, (∀ p ∈ before, sp p.block = true) → DataW.TrodVars enc P W' sp s.vars (s.fn H (ds ++ gg)).vars pv)
    (hps : before = pa ++ pv) (hb : Below W.heap.size W W')
    (hok : ∀ (j : Nat) (t : TypeId) (r : Value), f.resultTypes[j]? = some t → (v.resultList f.resultTypes.size)[j]? = some r → Value.okWide P W' .any 0 t r) :
    s.post enc P f apart fresh handsOn again W args v W' := by
  have hlt : ∀ p ∈ before, p.block < W.heap.size := fun p hp => hW.lt p hp
  have hold : ∀ p ∈ before, (fun b => decide (b < W.heap.size)) p.block = true := fun p hp => by simpa using hlt p hp
  refine ⟨ds, gg, before, [], pa, pv, hW, hres _ _ _, hargs _ hold, hvars _ hold, hb.frame _, fun _ => ?_⟩
  obtain ⟨_, _, _, _, _, hz, hn⟩ := hW
  refine ⟨hok, _, _, ([] ++ pa) ++ pv, ⟨[] ++ pa, pv, trodAll_append (hargs _ (fun _ _ => rfl)) (hres _ _ _), hvars _ (fun _ _ => rfl), rfl, ?_, ?_⟩, ?_⟩
  · intro b off hp
    have hm := hp
    rw [List.nil_append, ← hps] at hm
    rw [hb.frozen (hlt _ hm)]
    exact hz b off hm
  · intro ha
    have := hn ha
    rw [hps] at this
    simpa using this
  · intro p hp _
    rw [hps]
    simpa using hp
end

section
variable {H : Type}
theorem all_sum : ∀ l : List (DataW H), Rows.uptoBulkAll l = (l.map Rows.uptoBulk).sum
  | [] => by rw [Rows.uptoBulkAll]; rfl
  | d :: r => by rw [Rows.uptoBulkAll, all_sum r]; rfl
theorem meas : Meas (Rows.uptoBulk (H := H)) where
  slice es sp := by rw [Rows.uptoBulk, all_sum, all_sum]; omega
  agg ps := by rw [Rows.uptoBulk, all_sum]; exact Nat.le_refl _
  str b := by rw [Rows.uptoBulk]; omega
  pos d := by
    cases d with
    | lit l => cases l <;> (unfold Rows.uptoBulk; omega)
    | _ => unfold Rows.uptoBulk; omega
end

set_option maxRecDepth 100000 in
/-- the machine's call -/
theorem contract (H : Type) (enc : TypeId × Value → H) (W : World) (base : Nat) (args : Array Value) (ds gg : List (DataW H)) (before : List MemPlace)
    (hval : ∀ (j : Nat) t v, Tryz.f4.params[j]? = some t → args[j]? = some v → Value.okWide Tryz.prog W .any base t v)
    (hW : DataW.Whole enc Tryz.prog Tryz.f4.params.toList Rows.emitSameSpec.vars false W args.toList ds gg before) (hk : Rows.uptoSmall H (ds ++ gg) = true) :
    Calls Tryz.prog 4 args W fun e W' => ∃ v, e = .returned v ∧ Rows.emitSameSpec.post enc Tryz.prog Tryz.f4 false true false false W args v W' := by
  have hW' := hW
  have hlt0 : ∀ p ∈ before, p.block < W.heap.size := fun p hp => hW.lt p hp
  obtain ⟨p, q, hA0, hV, rfl, hfz, hnd⟩ := hW
  have hA : DataW.TrodAll enc Tryz.prog W 0 (fun _ => true) true Tryz.f4.params.toList args.toList ds p := hA0
  rw [Tryz.params4] at hA hval
  obtain ⟨v0, vs0, d0, ds0, p0, q0, hargs, rfl, rfl, h0, r0⟩ := trodAll_cons hA
  obtain ⟨v1, vs1, d1, ds1, p1, q1, rfl, rfl, rfl, h1, r1⟩ := trodAll_cons r0
  obtain ⟨rfl, rfl, rfl⟩ := trodAll_nil r1
  obtain rfl : args = #[v0, v1] := by cases args; simp_all
  obtain ⟨rfl, rfl⟩ := trodVars_none hV
  have hval0 : Value.okWide Tryz.prog W .any base 32 v0 := hval 0 32 v0 rfl rfl
  have hval1 : Value.okWide Tryz.prog W .any base 32 v1 := hval 1 32 v1 rfl rfl
  have hb := of_decide_eq_true hk
  rw [all_sum] at hb
  simp only [List.append_nil, List.map_cons, List.map_nil, List.sum_cons, List.sum_nil, Nat.add_zero] at hb
  have read : ∀ (v : Value) (d : DataW H) (ps : List MemPlace), Value.okWide Tryz.prog W .any base 32 v → DataW.Trod enc Tryz.prog W 0 (fun _ => true) true 32 v d ps → Rows.uptoBulk d ≤ 1048576 →
      ∃ a : GModule, CR (kapW W) (encM a) v ∧ OkM a := by
    intro v d ps hv hd hn
    simp only [Value.okWide, Tryz.underlying32] at hv
    obtain ⟨cs, rfl, _, _⟩ := hv
    obtain ⟨fuel, hd⟩ := hd
    obtain ⟨a, h1, h2⟩ := rdM (B := Rows.uptoBulk) meas fuel fuel (Nat.le_refl _) _ _ hd
    exact ⟨a, .agg h1, h2 hn⟩
  obtain ⟨a, ca, oa⟩ := read v0 d0 p0 (hval0) h0 (by omega)
  obtain ⟨b, cb, ob⟩ := read v1 d1 p1 (hval1) h1 (by omega)
  have hg : GlobOK gs W := ⟨rfl, Nat.zero_le _, fun κ g bk hgb => by simp [gs] at hgb⟩
  refine ((law_ok a b oa ob).calls hg (κ := kapW W) (fun _ _ _ h => h) (.cons ca (.cons cb .nil))).mono fun e W' ⟨he, hbl⟩ => ?_
  subst he
  have hstay : ∀ (v : Value) (d : DataW H) (ps : List MemPlace) (sp : Nat → Bool), DataW.Trod enc Tryz.prog W 0 (fun _ => true) true 32 v d ps → (∀ x ∈ ps, x.block < W.heap.size) → (∀ x ∈ ps, sp x.block = true) → DataW.Trod enc Tryz.prog W' 0 sp true 32 v d ps :=
    fun v d ps sp h hl hs => WideElems.Trod_stays (by kernel_rfl) (by kernel_rfl) (of_decide_eq_true (by kernel_rfl)) h (fun x hx => hbl.same (hl x hx)) hs
  simp only [List.append_nil] at hW' hlt0
  refine ⟨_, rfl, post_of_below (pa := p0 ++ p1) (pv := []) (gg := []) hW' (fun _ _ _ => (trodAll_cons_mk (shut_bool Tryz.underlying4 _) trodAll_mk0)) (fun sp hsp => ?_) (fun _ _ => rfl) (by simp) hbl (ok_one (by kernel_rfl) rfl (okWide_bool_mk Tryz.underlying4 _))⟩
  have t0 := hstay v0 d0 p0 sp h0 (fun x hx => hlt0 x (by simp [hx])) (fun x hx => hsp x (by simp [hx]))
  have t1 := hstay v1 d1 p1 sp h1 (fun x hx => hlt0 x (by simp [hx])) (fun x hx => hsp x (by simp [hx]))
  have := trodAll_cons_mk t0 (trodAll_cons_mk t1 trodAll_mk0)
  simp only [List.append_nil] at this
  exact this

abbrev zero : Value := .agg #[.slice none 0 0, .slice none 0 0, .slice none 0 0, .slice none 0 0, .slice none 0 0, .slice none 0 0, .slice none 0 0, .bool false, .int .u32 0, .slice none 0 0, .slice none 0 0]

set_option maxRecDepth 100000 in
theorem lifted (os : Os) (started : os.Started) (H : Type) (enc : TypeId × Value → H) (F : Stop.Interp) :
    ReturnsInHanded {} Tryz.checked os 4 .any ((Rows.OpenSpec.upto Rows.emitSameSpec).pre6 enc Tryz.prog Tryz.f4 Rows.emitSameUptoRow.domain false) (((Rows.OpenSpec.upto Rows.emitSameSpec).at F).post enc Tryz.prog Tryz.f4 false true false false) := by
  refine returnsInHanded_of_cond (C := Tryz.checked) (s := Rows.OpenSpec.upto Rows.emitSameSpec) (k := Rows.uptoSmall) rfl own started (by kernel_rfl) Tryz.func4
    (OpenSpec.witness (enc := enc) (C := Tryz.checked) (s := Rows.OpenSpec.upto Rows.emitSameSpec) (k := Rows.uptoSmall) rfl false ⟨#[], #[zero, zero], []⟩ 8 (by kernel_rfl) (by kernel_rfl) (by kernel_rfl)
      (x := ([.agg [.nil, .nil, .nil, .nil, .nil, .nil, .nil, .lit (.bool false), .lit (.int .u32 0), .nil, .nil], .agg [.nil, .nil, .nil, .nil, .nil, .nil, .nil, .lit (.bool false), .lit (.int .u32 0), .nil, .nil]], [], [])) (by kernel_rfl) rfl (by kernel_rfl)) ?_
  intro W base args ds gg before hval hW _ hk _
  exact contract H enc W base args ds gg before hval hW hk

theorem over : Rows.emitSameUptoRow.holds Tryz.pinned (Rows.OpenSpec.upto Rows.emitSameSpec) :=
  OpenClaim.holds_of_cond 4 Tryz.f4 rfl rfl rfl rfl rfl rfl rfl ⟨rfl, rfl, rfl, rfl, rfl⟩ rfl rfl rfl rfl rfl (by kernel_rfl) Tryz.func4 (by kernel_rfl)
    (of_decide_eq_true (by kernel_rfl)) (by unfold Func.isWrapper; first | (rw [if_pos (by decide +kernel)]; kernel_rfl) | (rw [if_neg (by decide +kernel)]; exact ⟨rfl, rfl⟩))
    (fun os started H enc _ F => lifted os started H enc F)

theorem proved : Rows.EmitSameUptoSaid :=
  over
end Go.Proofs.YtmcmaklilfgdiaaGreat.emitSame
