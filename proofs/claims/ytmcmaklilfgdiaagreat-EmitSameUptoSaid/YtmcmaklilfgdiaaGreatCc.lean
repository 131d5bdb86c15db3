/- Lists compared, as the program does it. -/
import Derived.Test.YtmcmaklilfgdiaaGreatCb
namespace Go.Proofs.YtmcmaklilfgdiaaGreat
open Go Go.RowKit Ev

theorem loop28 (a b : List GFuncType) (ha : a.length ≤ 1048576) (hab : a.length = b.length) (hg : ∀ x ∈ a, ∀ y ∈ b, K1 Tryz.prog gs 29 [encFT x, encFT y] (.bool (eqB x y))) (Q : Value → List ABlk → Prop) : ∀ (s u p q : List GFuncType), p ++ s = a → q ++ u = b → p.length = q.length → Q (.bool (eqB s u)) [] →
    LoopG Tryz.prog gs 0 (tab28.live 28 4) (its (bodyOf Tryz.f28) 4) ⟨28, slots 32 [(1, encL 2 encFT b), (2, .func (.func 29) ⟨[]⟩ ⟨[]⟩), (15, encL 2 encFT a), (16, i64 a.length), (17, i64 p.length)], [], none⟩ (mem []) Q
  | [], [], p, q, h1, h2, h3, hQ => by
    simp only [List.append_nil] at h1
    subst h1
    refine LoopG_of (T := tab28) mixedP noGoP 4000 (by kernel_rfl) fun J => ?_
    refine Eq.mpr (t28_4 _ _ _ J Q) ?_
    exact bif_f ltF (by rw [eqB_self] at hQ; exact hQ)
  | x :: s, y :: u, p, q, h1, h2, h3, hQ => by
    have hl : p.length < a.length := by rw [← h1]; simp
    have hl2 : p.length < b.length := by omega
    refine LoopG_of (T := tab28) mixedP noGoP 4000 (by kernel_rfl) fun J => ?_
    refine Eq.mpr (t28_4 _ _ _ J Q) ?_
    refine bif_t (ltT hl) (bif_t (inb hl) ⟨x, by rw [← h1]; exact getX _ p s x, bif_t (inb hl2) ⟨y, by rw [← h2, h3]; exact getX _ q u y, ?_⟩⟩)
    refine ⟨eqB x y, hg x (by rw [← h1]; simp) y (by rw [← h2]; simp), ?_⟩
    refine bif_c (fun h => ?_) (fun h => ?_)
    · rw [ne_of (rfl) h] at hQ; exact hQ
    · rw [eq_of (rfl) h] at hQ
      have ih := loop28 a b ha hab hg Q s u (p ++ [x]) (q ++ [y]) (by simpa using h1) (by simpa using h2) (by simp [h3]) hQ
      simp only [List.length_append, List.length_cons, List.length_nil, Nat.zero_add] at ih
      rw [wrapS (by omega)]
      exact ih
  | [], y :: u, p, q, h1, h2, h3, hQ => by
    rw [← h1, ← h2] at hab; simp at hab; omega
  | x :: s, [], p, q, h1, h2, h3, hQ => by
    rw [← h1, ← h2] at hab; simp at hab; omega

theorem eq28 (a b : List GFuncType) (ha : a.length ≤ 1048576) (hg : ∀ x ∈ a, ∀ y ∈ b, K1 Tryz.prog gs 29 [encFT x, encFT y] (.bool (eqB x y))) : K1 Tryz.prog gs 28 [encL 2 encFT a, encL 2 encFT b, .func (.func 29) ⟨[]⟩ ⟨[]⟩] (.bool (eqB a b)) := by
  refine K1_of (T := tab28) (c := bodyOf Tryz.f28) mixedP noGoP Tryz.func28 (by kernel_rfl) 4000 ?_
  rw [show ([encL 2 encFT a, encL 2 encFT b, .func (.func 29) ⟨[]⟩ ⟨[]⟩] : List Value).length = 3 from rfl, t28]
  refine bif_c (fun h => ⟨by rw [eqB_len h], rfl⟩) (fun h => ?_)
  exact loop28 a b ha (len_of h) hg _ a b [] [] rfl rfl rfl ⟨rfl, rfl⟩

theorem loop33 (a b : List GCell) (ha : a.length ≤ 1048576) (hab : a.length = b.length) (hg : ∀ x ∈ a, ∀ y ∈ b, K1 Tryz.prog gs 34 [encCell x, encCell y] (.bool (eqB x y))) (Q : Value → List ABlk → Prop) : ∀ (s u p q : List GCell), p ++ s = a → q ++ u = b → p.length = q.length → Q (.bool (eqB s u)) [] →
    LoopG Tryz.prog gs 0 (tab33.live 33 4) (its (bodyOf Tryz.f33) 4) ⟨33, slots 32 [(1, encL 3 encCell b), (2, .func (.func 34) ⟨[]⟩ ⟨[]⟩), (15, encL 3 encCell a), (16, i64 a.length), (17, i64 p.length)], [], none⟩ (mem []) Q
  | [], [], p, q, h1, h2, h3, hQ => by
    simp only [List.append_nil] at h1
    subst h1
    refine LoopG_of (T := tab33) mixedP noGoP 4000 (by kernel_rfl) fun J => ?_
    refine Eq.mpr (t33_4 _ _ _ J Q) ?_
    exact bif_f ltF (by rw [eqB_self] at hQ; exact hQ)
  | x :: s, y :: u, p, q, h1, h2, h3, hQ => by
    have hl : p.length < a.length := by rw [← h1]; simp
    have hl2 : p.length < b.length := by omega
    refine LoopG_of (T := tab33) mixedP noGoP 4000 (by kernel_rfl) fun J => ?_
    refine Eq.mpr (t33_4 _ _ _ J Q) ?_
    refine bif_t (ltT hl) (bif_t (inb hl) ⟨x, by rw [← h1]; exact getX _ p s x, bif_t (inb hl2) ⟨y, by rw [← h2, h3]; exact getX _ q u y, ?_⟩⟩)
    refine ⟨eqB x y, hg x (by rw [← h1]; simp) y (by rw [← h2]; simp), ?_⟩
    refine bif_c (fun h => ?_) (fun h => ?_)
    · rw [ne_of (rfl) h] at hQ; exact hQ
    · rw [eq_of (rfl) h] at hQ
      have ih := loop33 a b ha hab hg Q s u (p ++ [x]) (q ++ [y]) (by simpa using h1) (by simpa using h2) (by simp [h3]) hQ
      simp only [List.length_append, List.length_cons, List.length_nil, Nat.zero_add] at ih
      rw [wrapS (by omega)]
      exact ih
  | [], y :: u, p, q, h1, h2, h3, hQ => by
    rw [← h1, ← h2] at hab; simp at hab; omega
  | x :: s, [], p, q, h1, h2, h3, hQ => by
    rw [← h1, ← h2] at hab; simp at hab; omega

theorem eq33 (a b : List GCell) (ha : a.length ≤ 1048576) (hg : ∀ x ∈ a, ∀ y ∈ b, K1 Tryz.prog gs 34 [encCell x, encCell y] (.bool (eqB x y))) : K1 Tryz.prog gs 33 [encL 3 encCell a, encL 3 encCell b, .func (.func 34) ⟨[]⟩ ⟨[]⟩] (.bool (eqB a b)) := by
  refine K1_of (T := tab33) (c := bodyOf Tryz.f33) mixedP noGoP Tryz.func33 (by kernel_rfl) 4000 ?_
  rw [show ([encL 3 encCell a, encL 3 encCell b, .func (.func 34) ⟨[]⟩ ⟨[]⟩] : List Value).length = 3 from rfl, t33]
  refine bif_c (fun h => ⟨by rw [eqB_len h], rfl⟩) (fun h => ?_)
  exact loop33 a b ha (len_of h) hg _ a b [] [] rfl rfl rfl ⟨rfl, rfl⟩

theorem loop35 (a b : List GFn) (ha : a.length ≤ 1048576) (hab : a.length = b.length) (hg : ∀ x ∈ a, ∀ y ∈ b, K1 Tryz.prog gs 36 [encFn x, encFn y] (.bool (eqB x y))) (Q : Value → List ABlk → Prop) : ∀ (s u p q : List GFn), p ++ s = a → q ++ u = b → p.length = q.length → Q (.bool (eqB s u)) [] →
    LoopG Tryz.prog gs 0 (tab35.live 35 4) (its (bodyOf Tryz.f35) 4) ⟨35, slots 32 [(1, encL 3 encFn b), (2, .func (.func 36) ⟨[]⟩ ⟨[]⟩), (15, encL 3 encFn a), (16, i64 a.length), (17, i64 p.length)], [], none⟩ (mem []) Q
  | [], [], p, q, h1, h2, h3, hQ => by
    simp only [List.append_nil] at h1
    subst h1
    refine LoopG_of (T := tab35) mixedP noGoP 4000 (by kernel_rfl) fun J => ?_
    refine Eq.mpr (t35_4 _ _ _ J Q) ?_
    exact bif_f ltF (by rw [eqB_self] at hQ; exact hQ)
  | x :: s, y :: u, p, q, h1, h2, h3, hQ => by
    have hl : p.length < a.length := by rw [← h1]; simp
    have hl2 : p.length < b.length := by omega
    refine LoopG_of (T := tab35) mixedP noGoP 4000 (by kernel_rfl) fun J => ?_
    refine Eq.mpr (t35_4 _ _ _ J Q) ?_
    refine bif_t (ltT hl) (bif_t (inb hl) ⟨x, by rw [← h1]; exact getX _ p s x, bif_t (inb hl2) ⟨y, by rw [← h2, h3]; exact getX _ q u y, ?_⟩⟩)
    refine ⟨eqB x y, hg x (by rw [← h1]; simp) y (by rw [← h2]; simp), ?_⟩
    refine bif_c (fun h => ?_) (fun h => ?_)
    · rw [ne_of (rfl) h] at hQ; exact hQ
    · rw [eq_of (rfl) h] at hQ
      have ih := loop35 a b ha hab hg Q s u (p ++ [x]) (q ++ [y]) (by simpa using h1) (by simpa using h2) (by simp [h3]) hQ
      simp only [List.length_append, List.length_cons, List.length_nil, Nat.zero_add] at ih
      rw [wrapS (by omega)]
      exact ih
  | [], y :: u, p, q, h1, h2, h3, hQ => by
    rw [← h1, ← h2] at hab; simp at hab; omega
  | x :: s, [], p, q, h1, h2, h3, hQ => by
    rw [← h1, ← h2] at hab; simp at hab; omega

theorem eq35 (a b : List GFn) (ha : a.length ≤ 1048576) (hg : ∀ x ∈ a, ∀ y ∈ b, K1 Tryz.prog gs 36 [encFn x, encFn y] (.bool (eqB x y))) : K1 Tryz.prog gs 35 [encL 3 encFn a, encL 3 encFn b, .func (.func 36) ⟨[]⟩ ⟨[]⟩] (.bool (eqB a b)) := by
  refine K1_of (T := tab35) (c := bodyOf Tryz.f35) mixedP noGoP Tryz.func35 (by kernel_rfl) 4000 ?_
  rw [show ([encL 3 encFn a, encL 3 encFn b, .func (.func 36) ⟨[]⟩ ⟨[]⟩] : List Value).length = 3 from rfl, t35]
  refine bif_c (fun h => ⟨by rw [eqB_len h], rfl⟩) (fun h => ?_)
  exact loop35 a b ha (len_of h) hg _ a b [] [] rfl rfl rfl ⟨rfl, rfl⟩

theorem loop37 (a b : List GElem) (ha : a.length ≤ 1048576) (hab : a.length = b.length) (hg : ∀ x ∈ a, ∀ y ∈ b, K1 Tryz.prog gs 38 [encElem x, encElem y] (.bool (eqB x y))) (Q : Value → List ABlk → Prop) : ∀ (s u p q : List GElem), p ++ s = a → q ++ u = b → p.length = q.length → Q (.bool (eqB s u)) [] →
    LoopG Tryz.prog gs 0 (tab37.live 37 4) (its (bodyOf Tryz.f37) 4) ⟨37, slots 32 [(1, encL 3 encElem b), (2, .func (.func 38) ⟨[]⟩ ⟨[]⟩), (15, encL 3 encElem a), (16, i64 a.length), (17, i64 p.length)], [], none⟩ (mem []) Q
  | [], [], p, q, h1, h2, h3, hQ => by
    simp only [List.append_nil] at h1
    subst h1
    refine LoopG_of (T := tab37) mixedP noGoP 4000 (by kernel_rfl) fun J => ?_
    refine Eq.mpr (t37_4 _ _ _ J Q) ?_
    exact bif_f ltF (by rw [eqB_self] at hQ; exact hQ)
  | x :: s, y :: u, p, q, h1, h2, h3, hQ => by
    have hl : p.length < a.length := by rw [← h1]; simp
    have hl2 : p.length < b.length := by omega
    refine LoopG_of (T := tab37) mixedP noGoP 4000 (by kernel_rfl) fun J => ?_
    refine Eq.mpr (t37_4 _ _ _ J Q) ?_
    refine bif_t (ltT hl) (bif_t (inb hl) ⟨x, by rw [← h1]; exact getX _ p s x, bif_t (inb hl2) ⟨y, by rw [← h2, h3]; exact getX _ q u y, ?_⟩⟩)
    refine ⟨eqB x y, hg x (by rw [← h1]; simp) y (by rw [← h2]; simp), ?_⟩
    refine bif_c (fun h => ?_) (fun h => ?_)
    · rw [ne_of (rfl) h] at hQ; exact hQ
    · rw [eq_of (rfl) h] at hQ
      have ih := loop37 a b ha hab hg Q s u (p ++ [x]) (q ++ [y]) (by simpa using h1) (by simpa using h2) (by simp [h3]) hQ
      simp only [List.length_append, List.length_cons, List.length_nil, Nat.zero_add] at ih
      rw [wrapS (by omega)]
      exact ih
  | [], y :: u, p, q, h1, h2, h3, hQ => by
    rw [← h1, ← h2] at hab; simp at hab; omega
  | x :: s, [], p, q, h1, h2, h3, hQ => by
    rw [← h1, ← h2] at hab; simp at hab; omega

theorem eq37 (a b : List GElem) (ha : a.length ≤ 1048576) (hg : ∀ x ∈ a, ∀ y ∈ b, K1 Tryz.prog gs 38 [encElem x, encElem y] (.bool (eqB x y))) : K1 Tryz.prog gs 37 [encL 3 encElem a, encL 3 encElem b, .func (.func 38) ⟨[]⟩ ⟨[]⟩] (.bool (eqB a b)) := by
  refine K1_of (T := tab37) (c := bodyOf Tryz.f37) mixedP noGoP Tryz.func37 (by kernel_rfl) 4000 ?_
  rw [show ([encL 3 encElem a, encL 3 encElem b, .func (.func 38) ⟨[]⟩ ⟨[]⟩] : List Value).length = 3 from rfl, t37]
  refine bif_c (fun h => ⟨by rw [eqB_len h], rfl⟩) (fun h => ?_)
  exact loop37 a b ha (len_of h) hg _ a b [] [] rfl rfl rfl ⟨rfl, rfl⟩

theorem loop39 (a b : List GData) (ha : a.length ≤ 1048576) (hab : a.length = b.length) (hg : ∀ x ∈ a, ∀ y ∈ b, K1 Tryz.prog gs 40 [encData x, encData y] (.bool (eqB x y))) (Q : Value → List ABlk → Prop) : ∀ (s u p q : List GData), p ++ s = a → q ++ u = b → p.length = q.length → Q (.bool (eqB s u)) [] →
    LoopG Tryz.prog gs 0 (tab39.live 39 4) (its (bodyOf Tryz.f39) 4) ⟨39, slots 32 [(1, encL 3 encData b), (2, .func (.func 40) ⟨[]⟩ ⟨[]⟩), (15, encL 3 encData a), (16, i64 a.length), (17, i64 p.length)], [], none⟩ (mem []) Q
  | [], [], p, q, h1, h2, h3, hQ => by
    simp only [List.append_nil] at h1
    subst h1
    refine LoopG_of (T := tab39) mixedP noGoP 4000 (by kernel_rfl) fun J => ?_
    refine Eq.mpr (t39_4 _ _ _ J Q) ?_
    exact bif_f ltF (by rw [eqB_self] at hQ; exact hQ)
  | x :: s, y :: u, p, q, h1, h2, h3, hQ => by
    have hl : p.length < a.length := by rw [← h1]; simp
    have hl2 : p.length < b.length := by omega
    refine LoopG_of (T := tab39) mixedP noGoP 4000 (by kernel_rfl) fun J => ?_
    refine Eq.mpr (t39_4 _ _ _ J Q) ?_
    refine bif_t (ltT hl) (bif_t (inb hl) ⟨x, by rw [← h1]; exact getX _ p s x, bif_t (inb hl2) ⟨y, by rw [← h2, h3]; exact getX _ q u y, ?_⟩⟩)
    refine ⟨eqB x y, hg x (by rw [← h1]; simp) y (by rw [← h2]; simp), ?_⟩
    refine bif_c (fun h => ?_) (fun h => ?_)
    · rw [ne_of (rfl) h] at hQ; exact hQ
    · rw [eq_of (rfl) h] at hQ
      have ih := loop39 a b ha hab hg Q s u (p ++ [x]) (q ++ [y]) (by simpa using h1) (by simpa using h2) (by simp [h3]) hQ
      simp only [List.length_append, List.length_cons, List.length_nil, Nat.zero_add] at ih
      rw [wrapS (by omega)]
      exact ih
  | [], y :: u, p, q, h1, h2, h3, hQ => by
    rw [← h1, ← h2] at hab; simp at hab; omega
  | x :: s, [], p, q, h1, h2, h3, hQ => by
    rw [← h1, ← h2] at hab; simp at hab; omega

theorem eq39 (a b : List GData) (ha : a.length ≤ 1048576) (hg : ∀ x ∈ a, ∀ y ∈ b, K1 Tryz.prog gs 40 [encData x, encData y] (.bool (eqB x y))) : K1 Tryz.prog gs 39 [encL 3 encData a, encL 3 encData b, .func (.func 40) ⟨[]⟩ ⟨[]⟩] (.bool (eqB a b)) := by
  refine K1_of (T := tab39) (c := bodyOf Tryz.f39) mixedP noGoP Tryz.func39 (by kernel_rfl) 4000 ?_
  rw [show ([encL 3 encData a, encL 3 encData b, .func (.func 40) ⟨[]⟩ ⟨[]⟩] : List Value).length = 3 from rfl, t39]
  refine bif_c (fun h => ⟨by rw [eqB_len h], rfl⟩) (fun h => ?_)
  exact loop39 a b ha (len_of h) hg _ a b [] [] rfl rfl rfl ⟨rfl, rfl⟩

theorem loop106 (a b : List Instr) (ha : a.length ≤ 1048576) (hab : a.length = b.length) (hg : ∀ x ∈ a, ∀ y ∈ b, K1 Tryz.prog gs 107 [opnI x, opnI y] (.bool (eqB x y))) (Q : Value → List ABlk → Prop) : ∀ (s u p q : List Instr), p ++ s = a → q ++ u = b → p.length = q.length → Q (.bool (eqB s u)) [] →
    LoopG Tryz.prog gs 0 (tab106.live 106 4) (its (bodyOf Tryz.f106) 4) ⟨106, slots 32 [(1, encL 9 encI b), (2, .func (.func 107) ⟨[]⟩ ⟨[]⟩), (15, encL 9 encI a), (16, i64 a.length), (17, i64 p.length)], [], none⟩ (mem []) Q
  | [], [], p, q, h1, h2, h3, hQ => by
    simp only [List.append_nil] at h1
    subst h1
    refine LoopG_of (T := tab106) mixedP noGoP 4000 (by kernel_rfl) fun J => ?_
    refine Eq.mpr (t106_4 _ _ _ J Q) ?_
    exact bif_f ltF (by rw [eqB_self] at hQ; exact hQ)
  | x :: s, y :: u, p, q, h1, h2, h3, hQ => by
    have hl : p.length < a.length := by rw [← h1]; simp
    have hl2 : p.length < b.length := by omega
    refine LoopG_of (T := tab106) mixedP noGoP 4000 (by kernel_rfl) fun J => ?_
    refine Eq.mpr (t106_4 _ _ _ J Q) ?_
    refine bif_t (ltT hl) (bif_t (inb hl) ⟨x, by rw [← h1]; exact getX _ p s x, bif_t (inb hl2) ⟨y, by rw [← h2, h3]; exact getX _ q u y, ?_⟩⟩)
    refine ⟨eqB x y, hg x (by rw [← h1]; simp) y (by rw [← h2]; simp), ?_⟩
    refine bif_c (fun h => ?_) (fun h => ?_)
    · rw [ne_of (rfl) h] at hQ; exact hQ
    · rw [eq_of (rfl) h] at hQ
      have ih := loop106 a b ha hab hg Q s u (p ++ [x]) (q ++ [y]) (by simpa using h1) (by simpa using h2) (by simp [h3]) hQ
      simp only [List.length_append, List.length_cons, List.length_nil, Nat.zero_add] at ih
      rw [wrapS (by omega)]
      exact ih
  | [], y :: u, p, q, h1, h2, h3, hQ => by
    rw [← h1, ← h2] at hab; simp at hab; omega
  | x :: s, [], p, q, h1, h2, h3, hQ => by
    rw [← h1, ← h2] at hab; simp at hab; omega

theorem eq106 (a b : List Instr) (ha : a.length ≤ 1048576) (hg : ∀ x ∈ a, ∀ y ∈ b, K1 Tryz.prog gs 107 [opnI x, opnI y] (.bool (eqB x y))) : K1 Tryz.prog gs 106 [encL 9 encI a, encL 9 encI b, .func (.func 107) ⟨[]⟩ ⟨[]⟩] (.bool (eqB a b)) := by
  refine K1_of (T := tab106) (c := bodyOf Tryz.f106) mixedP noGoP Tryz.func106 (by kernel_rfl) 4000 ?_
  rw [show ([encL 9 encI a, encL 9 encI b, .func (.func 107) ⟨[]⟩ ⟨[]⟩] : List Value).length = 3 from rfl, t106]
  refine bif_c (fun h => ⟨by rw [eqB_len h], rfl⟩) (fun h => ?_)
  exact loop106 a b ha (len_of h) hg _ a b [] [] rfl rfl rfl ⟨rfl, rfl⟩

end Go.Proofs.YtmcmaklilfgdiaaGreat
