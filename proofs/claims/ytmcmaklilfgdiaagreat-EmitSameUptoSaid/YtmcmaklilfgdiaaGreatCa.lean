/- How many instructions; instructions as the document has them. -/
import Derived.Test.YtmcmaklilfgdiaaGreatTa
namespace Go.Proofs.YtmcmaklilfgdiaaGreat
open Go Go.RowKit Ev

mutual
/-- how great instructions are -/
def wI : Instr → Nat
  | .mk _ _ _ _ _ list t e _ => 1 + list.length + wIs t + wIs e
def wIs : List Instr → Nat
  | [] => 0
  | x :: l => wI x + wIs l
end
theorem wI_eq (x : Instr) : wI x = 1 + x.list.length + wIs x.then_ + wIs x.else_ := by cases x; rw [wI]; rfl
theorem wIs_mem : ∀ {l : List Instr} {x : Instr}, x ∈ l → wI x ≤ wIs l
  | [], _, h => by cases h
  | y :: l, x, h => by
    rw [wIs]
    rcases List.mem_cons.1 h with rfl | h
    · omega
    · have := wIs_mem h; omega
theorem wIs_len : ∀ l : List Instr, l.length ≤ wIs l
  | [] => by simp
  | x :: l => by
    have := wIs_len l
    have := wI_eq x
    rw [wIs, List.length_cons]; omega

/-- instructions as a play counts them -/
def codeN : List Instr → Nat
  | [] => 0
  | x :: l => 1 + x.then_.length + x.else_.length + x.list.length + codeN l
theorem codeN_app : ∀ a b : List Instr, codeN (a ++ b) = codeN a + codeN b
  | [], b => by simp [codeN]
  | x :: a, b => by simp only [List.cons_append, codeN, codeN_app a b]; omega
theorem codeN_le : ∀ l : List Instr, codeN l ≤ wIs l
  | [] => by simp [codeN]
  | x :: l => by
    have := codeN_le l
    have := wI_eq x
    have := wIs_len x.then_
    have := wIs_len x.else_
    rw [codeN, wIs]; omega

theorem loop15 (l : List Instr) (hb : wIs l ≤ 1048576) (Q : Value → List ABlk → Prop) (hQ : Q (.bool (decide (codeN l ≤ 3000))) []) : ∀ (suf pre : List Instr), pre ++ suf = l →
    LoopG Tryz.prog gs 0 (tab15.live 15 3) (its (bodyOf Tryz.f15) 3) ⟨15, slots 29 [(3, i64 (codeN pre)), (6, encL 9 encI l), (7, i64 l.length), (8, i64 pre.length)], [], none⟩ (mem []) Q
  | [], pre, h => by
    simp only [List.append_nil] at h
    subst h
    refine LoopG_of (T := tab15) mixedP noGoP 4000 (by kernel_rfl) fun J => ?_
    rw [t15_3]
    refine bif_f ltF ?_
    have : decide ((codeN pre : Int) ≤ 3000) = decide (codeN pre ≤ 3000) := by simp; omega
    rw [this]; exact hQ
  | x :: suf, pre, h => by
    have ih := loop15 l hb Q hQ suf (pre ++ [x]) (by simpa using h)
    have hl : pre.length < l.length := by rw [← h]; simp
    have hcl := codeN_le l
    have hc : codeN l = codeN pre + codeN (x :: suf) := by rw [← h, codeN_app]
    rw [codeN] at hc
    have hlen := wIs_len l
    refine LoopG_of (T := tab15) mixedP noGoP 4000 (by kernel_rfl) fun J => ?_
    rw [t15_3]
    refine bif_t (ltT hl) (bif_t (inb hl) ⟨x, by rw [← h]; exact getX encI pre suf x, ?_⟩)
    rw [wrapS (by omega), wrapI (x := 1 + (x.then_.length : Int)) (by omega) (by omega), wrapI (x := 1 + (x.then_.length : Int) + (x.else_.length : Int)) (by omega) (by omega),
      wrapI (x := 1 + (x.then_.length : Int) + (x.else_.length : Int) + (x.list.length : Int)) (by omega) (by omega), wrapI (by omega) (by omega)]
    rw [codeN_app, codeN, codeN] at ih
    simp only [List.length_append, List.length_cons, List.length_nil, Nat.zero_add] at ih
    have : ((codeN pre : Int) + (1 + (x.then_.length : Int) + (x.else_.length : Int) + (x.list.length : Int))) = ((codeN pre + (1 + x.then_.length + x.else_.length + x.list.length + 0) : Nat) : Int) := by omega
    rw [this]
    exact ih

theorem code_ok (l : List Instr) (hb : wIs l ≤ 1048576) : K1 Tryz.prog gs 15 [encL 9 encI l] (.bool (decide (codeN l ≤ 3000))) := by
  refine K1_of (T := tab15) (c := bodyOf Tryz.f15) mixedP noGoP Tryz.func15 (by kernel_rfl) 4000 ?_
  rw [show ([encL 9 encI l] : List Value).length = 1 from rfl, t15]
  exact loop15 l hb _ ⟨rfl, rfl⟩ l [] rfl

theorem loop27 (l : List Instr) (hb : wIs l ≤ 1048576) (hr : ∀ x ∈ l, K1 Tryz.prog gs 27 [encL 9 encI x.then_] (encL 9 encI x.then_) ∧ K1 Tryz.prog gs 27 [encL 9 encI x.else_] (encL 9 encI x.else_))
    (Q : Value → List ABlk → Prop) (hQ : Q (encL 9 encI l) []) : ∀ (suf pre : List Instr), pre ++ suf = l →
    LoopG Tryz.prog gs 0 (tab27.live 27 3) (its (bodyOf Tryz.f27) 3) ⟨27, slots 38 [(3, ownV 0), (6, encL 9 encI l), (7, i64 l.length), (8, i64 pre.length)], [], none⟩ (mem [.lst pre.length (pre.map encI) 9]) Q
  | [], pre, h => by
    simp only [List.append_nil] at h
    subst h
    refine LoopG_of (T := tab27) mixedP noGoP 4000 (by kernel_rfl) fun J => ?_
    rw [t27_3]
    exact bif_f ltF hQ
  | x :: suf, pre, h => by
    have ih := loop27 l hb hr Q hQ suf (pre ++ [x]) (by simpa using h)
    have hl : pre.length < l.length := by rw [← h]; simp
    have hlen := wIs_len l
    obtain ⟨h1, h2⟩ := hr x (by rw [← h]; simp)
    refine LoopG_of (T := tab27) mixedP noGoP 4000 (by kernel_rfl) fun J => ?_
    rw [t27_3]
    refine bif_t (ltT hl) (bif_t (inb hl) ⟨x, by rw [← h]; exact getX encI pre suf x, x.then_, h1, x.else_, h2, bif_t (by simp only [Nat.ble_eq]; omega) ?_⟩)
    rw [wrapS (by omega)]
    simp only [List.length_append, List.length_cons, List.length_nil, Nat.zero_add, List.map_append, List.map_cons, List.map_nil, encI_eq x] at ih
    exact ih

theorem plain_ok (l : List Instr) (hb : wIs l ≤ 1048576) : K1 Tryz.prog gs 27 [encL 9 encI l] (encL 9 encI l) := by
  refine K1_of (T := tab27) (c := bodyOf Tryz.f27) mixedP noGoP Tryz.func27 (by kernel_rfl) 4000 ?_
  rw [show ([encL 9 encI l] : List Value).length = 1 from rfl, t27]
  refine loop27 l hb (fun x hx => ?_) _ ⟨rfl, rfl⟩ l [] rfl
  have h1 := wIs_mem hx
  have h2 := wI_eq x
  exact ⟨plain_ok x.then_ (by omega), plain_ok x.else_ (by omega)⟩
  termination_by wIs l
end Go.Proofs.YtmcmaklilfgdiaaGreat
