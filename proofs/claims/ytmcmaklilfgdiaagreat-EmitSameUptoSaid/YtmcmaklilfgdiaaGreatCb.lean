/- Lists compared, as the program does it. -/
import Derived.Test.YtmcmaklilfgdiaaGreatCb0
namespace Go.Proofs.YtmcmaklilfgdiaaGreat
open Go Go.RowKit Ev

theorem loop94 (a b : List Int) (ha : a.length ≤ 1048576) (hab : a.length = b.length) (Q : Value → List ABlk → Prop) : ∀ (s u p q : List Int), p ++ s = a → q ++ u = b → p.length = q.length → Q (.bool (eqB s u)) [] →
    LoopG Tryz.prog gs 0 (tab94.live 94 4) (its (bodyOf Tryz.f94) 4) ⟨94, slots 26 [(0, bytesV a), (1, bytesV b), (12, i64 a.length), (13, i64 p.length)], [], none⟩ (mem []) Q
  | [], [], p, q, h1, h2, h3, hQ => by
    simp only [List.append_nil] at h1
    subst h1
    refine LoopG_of (T := tab94) mixedP noGoP 4000 (by kernel_rfl) fun J => ?_
    refine Eq.mpr (t94_4 _ _ _ J Q) ?_
    exact bif_f ltF (by rw [eqB_self] at hQ; exact hQ)
  | x :: s, y :: u, p, q, h1, h2, h3, hQ => by
    have hl : p.length < a.length := by rw [← h1]; simp
    have hl2 : p.length < b.length := by omega
    refine LoopG_of (T := tab94) mixedP noGoP 4000 (by kernel_rfl) fun J => ?_
    refine Eq.mpr (t94_4 _ _ _ J Q) ?_
    refine bif_t (ltT hl) (bif_t (inb hl) ⟨x, by rw [← h1]; exact getX _ p s x, bif_t (inb hl2) ⟨y, by rw [← h2, h3]; exact getX _ q u y, ?_⟩⟩)
    refine bif_c (fun h => ?_) (fun h => ?_)
    · rw [ne_of (intB) h] at hQ; exact hQ
    · rw [eq_of (intB) h] at hQ
      have ih := loop94 a b ha hab Q s u (p ++ [x]) (q ++ [y]) (by simpa using h1) (by simpa using h2) (by simp [h3]) hQ
      simp only [List.length_append, List.length_cons, List.length_nil, Nat.zero_add] at ih
      rw [wrapS (by omega)]
      exact ih
  | [], y :: u, p, q, h1, h2, h3, hQ => by
    rw [← h1, ← h2] at hab; simp at hab; omega
  | x :: s, [], p, q, h1, h2, h3, hQ => by
    rw [← h1, ← h2] at hab; simp at hab; omega

theorem eq94 (a b : List Int) (ha : a.length ≤ 1048576) : K1 Tryz.prog gs 94 [bytesV a, bytesV b] (.bool (eqB a b)) := by
  refine K1_of (T := tab94) (c := bodyOf Tryz.f94) mixedP noGoP Tryz.func94 (by kernel_rfl) 4000 ?_
  rw [show ([bytesV a, bytesV b] : List Value).length = 2 from rfl, t94]
  refine bif_c (fun h => ⟨by rw [eqB_len h], rfl⟩) (fun h => ?_)
  exact loop94 a b ha (len_of h) _ a b [] [] rfl rfl rfl ⟨rfl, rfl⟩

theorem loop95 (a b : List Int) (ha : a.length ≤ 1048576) (hab : a.length = b.length) (Q : Value → List ABlk → Prop) : ∀ (s u p q : List Int), p ++ s = a → q ++ u = b → p.length = q.length → Q (.bool (eqB s u)) [] →
    LoopG Tryz.prog gs 0 (tab95.live 95 4) (its (bodyOf Tryz.f95) 4) ⟨95, slots 26 [(0, words a), (1, words b), (12, i64 a.length), (13, i64 p.length)], [], none⟩ (mem []) Q
  | [], [], p, q, h1, h2, h3, hQ => by
    simp only [List.append_nil] at h1
    subst h1
    refine LoopG_of (T := tab95) mixedP noGoP 4000 (by kernel_rfl) fun J => ?_
    refine Eq.mpr (t95_4 _ _ _ J Q) ?_
    exact bif_f ltF (by rw [eqB_self] at hQ; exact hQ)
  | x :: s, y :: u, p, q, h1, h2, h3, hQ => by
    have hl : p.length < a.length := by rw [← h1]; simp
    have hl2 : p.length < b.length := by omega
    refine LoopG_of (T := tab95) mixedP noGoP 4000 (by kernel_rfl) fun J => ?_
    refine Eq.mpr (t95_4 _ _ _ J Q) ?_
    refine bif_t (ltT hl) (bif_t (inb hl) ⟨x, by rw [← h1]; exact getX _ p s x, bif_t (inb hl2) ⟨y, by rw [← h2, h3]; exact getX _ q u y, ?_⟩⟩)
    refine bif_c (fun h => ?_) (fun h => ?_)
    · rw [ne_of (intB) h] at hQ; exact hQ
    · rw [eq_of (intB) h] at hQ
      have ih := loop95 a b ha hab Q s u (p ++ [x]) (q ++ [y]) (by simpa using h1) (by simpa using h2) (by simp [h3]) hQ
      simp only [List.length_append, List.length_cons, List.length_nil, Nat.zero_add] at ih
      rw [wrapS (by omega)]
      exact ih
  | [], y :: u, p, q, h1, h2, h3, hQ => by
    rw [← h1, ← h2] at hab; simp at hab; omega
  | x :: s, [], p, q, h1, h2, h3, hQ => by
    rw [← h1, ← h2] at hab; simp at hab; omega

theorem eq95 (a b : List Int) (ha : a.length ≤ 1048576) : K1 Tryz.prog gs 95 [words a, words b] (.bool (eqB a b)) := by
  refine K1_of (T := tab95) (c := bodyOf Tryz.f95) mixedP noGoP Tryz.func95 (by kernel_rfl) 4000 ?_
  rw [show ([words a, words b] : List Value).length = 2 from rfl, t95]
  refine bif_c (fun h => ⟨by rw [eqB_len h], rfl⟩) (fun h => ?_)
  exact loop95 a b ha (len_of h) _ a b [] [] rfl rfl rfl ⟨rfl, rfl⟩

theorem loop30 (a b : List GImport) (ha : a.length ≤ 1048576) (hab : a.length = b.length) (Q : Value → List ABlk → Prop) : ∀ (s u p q : List GImport), p ++ s = a → q ++ u = b → p.length = q.length → Q (.bool (eqB s u)) [] →
    LoopG Tryz.prog gs 0 (tab30.live 30 4) (its (bodyOf Tryz.f30) 4) ⟨30, slots 26 [(0, encL 9 encImp a), (1, encL 9 encImp b), (12, i64 a.length), (13, i64 p.length)], [], none⟩ (mem []) Q
  | [], [], p, q, h1, h2, h3, hQ => by
    simp only [List.append_nil] at h1
    subst h1
    refine LoopG_of (T := tab30) mixedP noGoP 4000 (by kernel_rfl) fun J => ?_
    refine Eq.mpr (t30_4 _ _ _ J Q) ?_
    exact bif_f ltF (by rw [eqB_self] at hQ; exact hQ)
  | x :: s, y :: u, p, q, h1, h2, h3, hQ => by
    have hl : p.length < a.length := by rw [← h1]; simp
    have hl2 : p.length < b.length := by omega
    refine LoopG_of (T := tab30) mixedP noGoP 4000 (by kernel_rfl) fun J => ?_
    refine Eq.mpr (t30_4 _ _ _ J Q) ?_
    refine bif_t (ltT hl) (bif_t (inb hl) ⟨x, by rw [← h1]; exact getX _ p s x, bif_t (inb hl2) ⟨y, by rw [← h2, h3]; exact getX _ q u y, ?_⟩⟩)
    refine bif_c (fun h => ?_) (fun h => ?_)
    · rw [ne_of (impB x y) h] at hQ; exact hQ
    · rw [eq_of (impB x y) h] at hQ
      have ih := loop30 a b ha hab Q s u (p ++ [x]) (q ++ [y]) (by simpa using h1) (by simpa using h2) (by simp [h3]) hQ
      simp only [List.length_append, List.length_cons, List.length_nil, Nat.zero_add] at ih
      rw [wrapS (by omega)]
      exact ih
  | [], y :: u, p, q, h1, h2, h3, hQ => by
    rw [← h1, ← h2] at hab; simp at hab; omega
  | x :: s, [], p, q, h1, h2, h3, hQ => by
    rw [← h1, ← h2] at hab; simp at hab; omega

theorem eq30 (a b : List GImport) (ha : a.length ≤ 1048576) : K1 Tryz.prog gs 30 [encL 9 encImp a, encL 9 encImp b] (.bool (eqB a b)) := by
  refine K1_of (T := tab30) (c := bodyOf Tryz.f30) mixedP noGoP Tryz.func30 (by kernel_rfl) 4000 ?_
  rw [show ([encL 9 encImp a, encL 9 encImp b] : List Value).length = 2 from rfl, t30]
  refine bif_c (fun h => ⟨by rw [eqB_len h], rfl⟩) (fun h => ?_)
  exact loop30 a b ha (len_of h) _ a b [] [] rfl rfl rfl ⟨rfl, rfl⟩

theorem loop31 (a b : List GExport) (ha : a.length ≤ 1048576) (hab : a.length = b.length) (Q : Value → List ABlk → Prop) : ∀ (s u p q : List GExport), p ++ s = a → q ++ u = b → p.length = q.length → Q (.bool (eqB s u)) [] →
    LoopG Tryz.prog gs 0 (tab31.live 31 4) (its (bodyOf Tryz.f31) 4) ⟨31, slots 26 [(0, encL 3 encExp a), (1, encL 3 encExp b), (12, i64 a.length), (13, i64 p.length)], [], none⟩ (mem []) Q
  | [], [], p, q, h1, h2, h3, hQ => by
    simp only [List.append_nil] at h1
    subst h1
    refine LoopG_of (T := tab31) mixedP noGoP 4000 (by kernel_rfl) fun J => ?_
    refine Eq.mpr (t31_4 _ _ _ J Q) ?_
    exact bif_f ltF (by rw [eqB_self] at hQ; exact hQ)
  | x :: s, y :: u, p, q, h1, h2, h3, hQ => by
    have hl : p.length < a.length := by rw [← h1]; simp
    have hl2 : p.length < b.length := by omega
    refine LoopG_of (T := tab31) mixedP noGoP 4000 (by kernel_rfl) fun J => ?_
    refine Eq.mpr (t31_4 _ _ _ J Q) ?_
    refine bif_t (ltT hl) (bif_t (inb hl) ⟨x, by rw [← h1]; exact getX _ p s x, bif_t (inb hl2) ⟨y, by rw [← h2, h3]; exact getX _ q u y, ?_⟩⟩)
    refine bif_c (fun h => ?_) (fun h => ?_)
    · rw [ne_of (expB x y) h] at hQ; exact hQ
    · rw [eq_of (expB x y) h] at hQ
      have ih := loop31 a b ha hab Q s u (p ++ [x]) (q ++ [y]) (by simpa using h1) (by simpa using h2) (by simp [h3]) hQ
      simp only [List.length_append, List.length_cons, List.length_nil, Nat.zero_add] at ih
      rw [wrapS (by omega)]
      exact ih
  | [], y :: u, p, q, h1, h2, h3, hQ => by
    rw [← h1, ← h2] at hab; simp at hab; omega
  | x :: s, [], p, q, h1, h2, h3, hQ => by
    rw [← h1, ← h2] at hab; simp at hab; omega

theorem eq31 (a b : List GExport) (ha : a.length ≤ 1048576) : K1 Tryz.prog gs 31 [encL 3 encExp a, encL 3 encExp b] (.bool (eqB a b)) := by
  refine K1_of (T := tab31) (c := bodyOf Tryz.f31) mixedP noGoP Tryz.func31 (by kernel_rfl) 4000 ?_
  rw [show ([encL 3 encExp a, encL 3 encExp b] : List Value).length = 2 from rfl, t31]
  refine bif_c (fun h => ⟨by rw [eqB_len h], rfl⟩) (fun h => ?_)
  exact loop31 a b ha (len_of h) _ a b [] [] rfl rfl rfl ⟨rfl, rfl⟩

theorem loop32 (a b : List GLimits) (ha : a.length ≤ 1048576) (hab : a.length = b.length) (Q : Value → List ABlk → Prop) : ∀ (s u p q : List GLimits), p ++ s = a → q ++ u = b → p.length = q.length → Q (.bool (eqB s u)) [] →
    LoopG Tryz.prog gs 0 (tab32.live 32 4) (its (bodyOf Tryz.f32) 4) ⟨32, slots 26 [(0, encL 3 encLim a), (1, encL 3 encLim b), (12, i64 a.length), (13, i64 p.length)], [], none⟩ (mem []) Q
  | [], [], p, q, h1, h2, h3, hQ => by
    simp only [List.append_nil] at h1
    subst h1
    refine LoopG_of (T := tab32) mixedP noGoP 4000 (by kernel_rfl) fun J => ?_
    refine Eq.mpr (t32_4 _ _ _ J Q) ?_
    exact bif_f ltF (by rw [eqB_self] at hQ; exact hQ)
  | x :: s, y :: u, p, q, h1, h2, h3, hQ => by
    have hl : p.length < a.length := by rw [← h1]; simp
    have hl2 : p.length < b.length := by omega
    refine LoopG_of (T := tab32) mixedP noGoP 4000 (by kernel_rfl) fun J => ?_
    refine Eq.mpr (t32_4 _ _ _ J Q) ?_
    refine bif_t (ltT hl) (bif_t (inb hl) ⟨x, by rw [← h1]; exact getX _ p s x, bif_t (inb hl2) ⟨y, by rw [← h2, h3]; exact getX _ q u y, ?_⟩⟩)
    refine bif_c (fun h => ?_) (fun h => ?_)
    · rw [ne_of (limB x y) h] at hQ; exact hQ
    · rw [eq_of (limB x y) h] at hQ
      have ih := loop32 a b ha hab Q s u (p ++ [x]) (q ++ [y]) (by simpa using h1) (by simpa using h2) (by simp [h3]) hQ
      simp only [List.length_append, List.length_cons, List.length_nil, Nat.zero_add] at ih
      rw [wrapS (by omega)]
      exact ih
  | [], y :: u, p, q, h1, h2, h3, hQ => by
    rw [← h1, ← h2] at hab; simp at hab; omega
  | x :: s, [], p, q, h1, h2, h3, hQ => by
    rw [← h1, ← h2] at hab; simp at hab; omega

theorem eq32 (a b : List GLimits) (ha : a.length ≤ 1048576) : K1 Tryz.prog gs 32 [encL 3 encLim a, encL 3 encLim b] (.bool (eqB a b)) := by
  refine K1_of (T := tab32) (c := bodyOf Tryz.f32) mixedP noGoP Tryz.func32 (by kernel_rfl) 4000 ?_
  rw [show ([encL 3 encLim a, encL 3 encLim b] : List Value).length = 2 from rfl, t32]
  refine bif_c (fun h => ⟨by rw [eqB_len h], rfl⟩) (fun h => ?_)
  exact loop32 a b ha (len_of h) _ a b [] [] rfl rfl rfl ⟨rfl, rfl⟩

end Go.Proofs.YtmcmaklilfgdiaaGreat
