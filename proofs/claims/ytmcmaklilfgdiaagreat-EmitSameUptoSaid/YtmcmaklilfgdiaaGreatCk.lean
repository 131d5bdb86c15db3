/- From what is read of a module to plain data. -/
import Derived.Test.YtmcmaklilfgdiaaGreatCj
import Derived.Test.YtmcmaklilfgdiaaGreatSl
namespace Go.Proofs.YtmcmaklilfgdiaaGreat
open Go Go.RowKit Ev

section
variable {H : Type} {enc : TypeId × Value → H} {w : World} {base : Nat} {sp : Nat → Bool} {hd : Bool} {B : DataW H → Nat}

theorem rdL {F : Nat} {t e : TypeId} {α : Type} {enc' : α → Value} {ok : α → Nat → Prop} {sz : Nat} (m : Meas B) (ht : Tryz.prog.underlying t = some (.slice e)) (hsz : Tryz.prog.cellsOf e = sz) (hpos : 0 < sz)
    (r : Rd enc Tryz.prog w base sp hd B F e (fun x => cellsL (enc' x)) ok) (hw : ∀ x, wfE sz (enc' x)) (mono : ∀ x a b, a ≤ b → ok x a → ok x b) :
    Rd enc Tryz.prog w base sp hd B F t (fun l : List α => [encL sz enc' l]) (fun l n => l.length ≤ n ∧ ∀ x ∈ l, ok x n) :=
  (Rd.slice m ht hsz hpos r hw).conv id fun l n ⟨k, h1, h2⟩ => ⟨rfl, by have := h2.len; simp only [id]; omega, fun x hx => by
    obtain ⟨a, h3, h4⟩ := h2.mem x hx
    exact mono x a n (by omega) h4⟩
theorem wf_u8 (x : Int) : wfE 1 (u8 x) := ⟨rfl, fun v hv => by simp [cellsL] at hv; subst hv; rfl⟩
theorem wf_u32 (x : Int) : wfE 1 (u32 x) := ⟨rfl, fun v hv => by simp [cellsL] at hv; subst hv; rfl⟩
theorem wf_all {e : Value} {sz : Nat} (h1 : (cellsL e).length = sz) (h2 : (cellsL e).all oneC = true) : wfE sz e := ⟨h1, fun v hv => List.all_eq_true.1 h2 v hv⟩

def okBn (l : List Int) (n : Nat) : Prop := l.length ≤ n ∧ ∀ x ∈ l, 0 ≤ x ∧ x ≤ 255
theorem okBn.mono {l : List Int} {a b : Nat} (h : a ≤ b) (k : okBn l a) : okBn l b := ⟨Nat.le_trans k.1 h, k.2⟩
theorem rdBytes (m : Meas B) (F : Nat) : Rd enc Tryz.prog w base sp hd B F 35 (fun l : List Int => [bytesV l]) okBn :=
  (rdL (enc' := u8) (ok := fun n _ => (Lit.int .u8 n).wf = true) m Tryz.underlying35 (by kernel_rfl) (by decide) (Rd.int Tryz.underlying5) wf_u8 (fun _ _ _ _ h => h)).conv id fun l n h => ⟨rfl, h.1, fun x hx => by
    have := h.2 x hx
    simpa [Lit.wf, IntKind.min, IntKind.max, IntKind.signed, IntKind.bits] using this⟩
theorem rdWords (m : Meas B) (F : Nat) : Rd enc Tryz.prog w base sp hd B F 60 (fun l : List Int => [words l]) (fun l n => l.length + 1 ≤ n) :=
  (Rd.slice (enc' := u32) (ok := fun n _ => (Lit.int .u32 n).wf = true) m Tryz.underlying60 (by kernel_rfl) (by decide) (Rd.int Tryz.underlying28) wf_u32).conv id fun l n ⟨k, h1, h2⟩ => ⟨rfl, by have := h2.len; simp only [id]; omega⟩

theorem wfI (x : Instr) : wfE 9 (encI x) := by rw [encI_eq]; exact wf_all rfl rfl
theorem wIs_OkL : ∀ {l : List Instr} {n : Nat}, OkL (fun x n => wI x ≤ n) l n → wIs l ≤ n
  | [], _, _ => by simp [wIs]
  | x :: l, n, ⟨a, b, h1, _, h3, h4⟩ => by
    have := wIs_OkL h4
    rw [wIs]; omega
theorem rdInstr (m : Meas B) : ∀ F : Nat, Rd enc Tryz.prog w base sp hd B F 63 (fun x : Instr => cellsL (encI x)) (fun x n => wI x ≤ n)
  | 0 => Rd.zero
  | F + 1 => by
    have rI : Rd enc Tryz.prog w base sp hd B F 61 (fun l : List Instr => [encL 9 encI l]) (fun l n => wIs l + 1 ≤ n) :=
      (Rd.slice m Tryz.underlying61 (by kernel_rfl) (by decide) (rdInstr m F) wfI).conv id fun l n ⟨k, h1, h2⟩ => ⟨rfl, by have := wIs_OkL h2; simp only [id]; omega⟩
    refine (Rd.struct m Tryz.underlying63 (T := 9) (by kernel_rfl) (RdFs.cons (c := 1) rfl (by kernel_rfl) (Rd.int Tryz.underlying3) (RdFs.cons (c := 1) rfl (by kernel_rfl) (Rd.int Tryz.underlying5) (RdFs.cons (c := 1) rfl (by kernel_rfl) (Rd.int Tryz.underlying28) (RdFs.cons (c := 1) rfl (by kernel_rfl) (Rd.int Tryz.underlying28) (RdFs.cons (c := 1) rfl (by kernel_rfl) (Rd.int Tryz.underlying59) (RdFs.cons (c := 1) rfl (by kernel_rfl) (rdWords m F) (RdFs.cons (c := 1) rfl (by kernel_rfl) (rI) (RdFs.cons (c := 1) rfl (by kernel_rfl) (rI) (RdFs.cons (c := 1) rfl (by kernel_rfl) (Rd.bool Tryz.underlying4) (RdFs.nil))))))))))).conv
      (fun p => Instr.mk p.1 p.2.1 p.2.2.1 p.2.2.2.1 p.2.2.2.2.1 p.2.2.2.2.2.1 p.2.2.2.2.2.2.1 p.2.2.2.2.2.2.2.1 p.2.2.2.2.2.2.2.2.1) fun p n h => ?_
    obtain ⟨k, hk, a1, b1, h1, _, a2, b2, h2, _, a3, b3, h3, _, a4, b4, h4, _, a5, b5, h5, _, a6, b6, h6, g6, a7, b7, h7, g7, a8, b8, h8, g8, _⟩ := h
    refine ⟨by rw [encI_eq]; rfl, ?_⟩
    rw [wI_eq]
    simp only [Instr.list, Instr.then_, Instr.else_]
    omega
theorem rdCode (m : Meas B) (F : Nat) : Rd enc Tryz.prog w base sp hd B F 61 (fun l : List Instr => [encL 9 encI l]) (fun l n => wIs l ≤ n) :=
  (Rd.slice m Tryz.underlying61 (by kernel_rfl) (by decide) (rdInstr m F) wfI).conv id fun l n ⟨k, h1, h2⟩ => ⟨rfl, by have := wIs_OkL h2; simp only [id]; omega⟩

theorem rdFT (m : Meas B) (F : Nat) : Rd enc Tryz.prog w base sp hd B F 65 (fun x : GFuncType => cellsL (encFT x)) (fun x n => okBn x.params n ∧ okBn x.results n) := by
  refine Rd.down ((Rd.struct m Tryz.underlying65 (T := 2) (by kernel_rfl) (RdFs.cons (c := 1) rfl (by kernel_rfl) (rdBytes m F) (RdFs.cons (c := 1) rfl (by kernel_rfl) (rdBytes m F) (RdFs.nil)))).conv (fun p => (⟨p.1, p.2.1⟩ : GFuncType)) fun p n h => ?_)
  obtain ⟨k, hk, a1, b1, h1, o1, a2, b2, h2, o2, _⟩ := h
  exact ⟨rfl, o1.mono (by omega), o2.mono (by omega)⟩

theorem rdLim (m : Meas B) (F : Nat) : Rd enc Tryz.prog w base sp hd B F 85 (fun x : GLimits => cellsL (encLim x)) (fun x n => True) := by
  refine Rd.down ((Rd.struct m Tryz.underlying85 (T := 3) (by kernel_rfl) (RdFs.cons (c := 1) rfl (by kernel_rfl) (Rd.int Tryz.underlying28) (RdFs.cons (c := 1) rfl (by kernel_rfl) (Rd.int Tryz.underlying28) (RdFs.cons (c := 1) rfl (by kernel_rfl) (Rd.bool Tryz.underlying4) (RdFs.nil))))).conv (fun p => (⟨p.1, p.2.1, p.2.2.1⟩ : GLimits)) fun p n h => ?_)
  exact ⟨rfl, trivial⟩

theorem rdGT (m : Meas B) (F : Nat) : Rd enc Tryz.prog w base sp hd B F 70 (fun x : Int × Bool => [u8 x.1, .bool x.2]) (fun x n => True) := by
  refine Rd.down ((Rd.struct m Tryz.underlying70 (T := 2) (by kernel_rfl) (RdFs.cons (c := 1) rfl (by kernel_rfl) (Rd.int Tryz.underlying5) (RdFs.cons (c := 1) rfl (by kernel_rfl) (Rd.bool Tryz.underlying4) (RdFs.nil)))).conv (fun p => ((p.1, p.2.1) : Int × Bool)) fun p n h => ?_)
  exact ⟨rfl, trivial⟩

theorem rdImp (m : Meas B) (F : Nat) : Rd enc Tryz.prog w base sp hd B F 87 (fun x : GImport => cellsL (encImp x)) (fun x n => True) := by
  refine Rd.down ((Rd.struct m Tryz.underlying87 (T := 9) (by kernel_rfl) (RdFs.cons (c := 1) rfl (by kernel_rfl) (Rd.string Tryz.underlying9) (RdFs.cons (c := 1) rfl (by kernel_rfl) (Rd.string Tryz.underlying9) (RdFs.cons (c := 1) rfl (by kernel_rfl) (Rd.int Tryz.underlying3) (RdFs.cons (c := 1) rfl (by kernel_rfl) (Rd.int Tryz.underlying28) (RdFs.cons (c := 3) rfl (by kernel_rfl) (rdLim m F) (RdFs.cons (c := 2) rfl (by kernel_rfl) (rdGT m F) (RdFs.nil)))))))).conv (fun p => (⟨p.1, p.2.1, p.2.2.1, p.2.2.2.1, p.2.2.2.2.1, p.2.2.2.2.2.1.1, p.2.2.2.2.2.1.2⟩ : GImport)) fun p n h => ?_)
  exact ⟨rfl, trivial⟩

theorem rdExp (m : Meas B) (F : Nat) : Rd enc Tryz.prog w base sp hd B F 92 (fun x : GExport => cellsL (encExp x)) (fun x n => True) := by
  refine Rd.down ((Rd.struct m Tryz.underlying92 (T := 3) (by kernel_rfl) (RdFs.cons (c := 1) rfl (by kernel_rfl) (Rd.string Tryz.underlying9) (RdFs.cons (c := 1) rfl (by kernel_rfl) (Rd.int Tryz.underlying3) (RdFs.cons (c := 1) rfl (by kernel_rfl) (Rd.int Tryz.underlying28) (RdFs.nil))))).conv (fun p => (⟨p.1, p.2.1, p.2.2.1⟩ : GExport)) fun p n h => ?_)
  exact ⟨rfl, trivial⟩

theorem rdFn (m : Meas B) (F : Nat) : Rd enc Tryz.prog w base sp hd B F 67 (fun x : GFn => cellsL (encFn x)) (fun x n => okBn x.locals n ∧ wIs x.body ≤ n) := by
  refine Rd.down ((Rd.struct m Tryz.underlying67 (T := 3) (by kernel_rfl) (RdFs.cons (c := 1) rfl (by kernel_rfl) (Rd.int Tryz.underlying28) (RdFs.cons (c := 1) rfl (by kernel_rfl) (rdBytes m F) (RdFs.cons (c := 1) rfl (by kernel_rfl) (rdCode m F) (RdFs.nil))))).conv (fun p => (⟨p.1, p.2.1, p.2.2.1⟩ : GFn)) fun p n h => ?_)
  obtain ⟨k, hk, a1, b1, h1, _, a2, b2, h2, o2, a3, b3, h3, o3, _⟩ := h
  exact ⟨rfl, o2.mono (by omega), Nat.le_trans o3 (by omega)⟩

theorem rdCell (m : Meas B) (F : Nat) : Rd enc Tryz.prog w base sp hd B F 72 (fun x : GCell => cellsL (encCell x)) (fun x n => wIs x.init ≤ n) := by
  refine Rd.down ((Rd.struct m Tryz.underlying72 (T := 3) (by kernel_rfl) (RdFs.cons (c := 2) rfl (by kernel_rfl) (rdGT m F) (RdFs.cons (c := 1) rfl (by kernel_rfl) (rdCode m F) (RdFs.nil)))).conv (fun p => (⟨p.1.1, p.1.2, p.2.1⟩ : GCell)) fun p n h => ?_)
  obtain ⟨k, hk, a1, b1, h1, _, a3, b3, h3, o3, _⟩ := h
  exact ⟨rfl, Nat.le_trans o3 (by omega)⟩

theorem rdElem (m : Meas B) (F : Nat) : Rd enc Tryz.prog w base sp hd B F 100 (fun x : GElem => cellsL (encElem x)) (fun x n => wIs x.offset ≤ n ∧ x.funcs.length ≤ n) := by
  refine Rd.down ((Rd.struct m Tryz.underlying100 (T := 3) (by kernel_rfl) (RdFs.cons (c := 1) rfl (by kernel_rfl) (Rd.int Tryz.underlying28) (RdFs.cons (c := 1) rfl (by kernel_rfl) (rdCode m F) (RdFs.cons (c := 1) rfl (by kernel_rfl) (rdWords m F) (RdFs.nil))))).conv (fun p => (⟨p.1, p.2.1, p.2.2.1⟩ : GElem)) fun p n h => ?_)
  obtain ⟨k, hk, a1, b1, h1, _, a2, b2, h2, o2, a3, b3, h3, o3, _⟩ := h
  exact ⟨rfl, Nat.le_trans o2 (by omega), Nat.le_trans (Nat.le_of_succ_le o3) (by omega)⟩

theorem rdData (m : Meas B) (F : Nat) : Rd enc Tryz.prog w base sp hd B F 104 (fun x : GData => cellsL (encData x)) (fun x n => wIs x.offset ≤ n ∧ okBn x.bytes n) := by
  refine Rd.down ((Rd.struct m Tryz.underlying104 (T := 3) (by kernel_rfl) (RdFs.cons (c := 1) rfl (by kernel_rfl) (Rd.int Tryz.underlying28) (RdFs.cons (c := 1) rfl (by kernel_rfl) (rdCode m F) (RdFs.cons (c := 1) rfl (by kernel_rfl) (rdBytes m F) (RdFs.nil))))).conv (fun p => (⟨p.1, p.2.1, p.2.2.1⟩ : GData)) fun p n h => ?_)
  obtain ⟨k, hk, a1, b1, h1, _, a2, b2, h2, o2, a3, b3, h3, o3, _⟩ := h
  exact ⟨rfl, Nat.le_trans o2 (by omega), o3.mono (by omega)⟩

theorem rdM (m : Meas B) (F : Nat) : Rd enc Tryz.prog w base sp hd B F 32 (fun x : GModule => cellsM x) (fun x n => n ≤ 1048576 → OkM x) := by
  refine Rd.down ((Rd.struct m Tryz.underlying32 (T := 11) (by kernel_rfl) (RdFs.cons (c := 1) rfl (by kernel_rfl) (rdL m Tryz.underlying22 (by kernel_rfl) (by decide) (rdFT m F) (fun x => wf_all (sz := 2) rfl rfl) (fun _ _ _ h k => ⟨k.1.mono h, k.2.mono h⟩)) (RdFs.cons (c := 1) rfl (by kernel_rfl) (rdL m Tryz.underlying23 (by kernel_rfl) (by decide) (rdImp m F) (fun x => wf_all (sz := 9) rfl rfl) (fun _ _ _ _ h => h)) (RdFs.cons (c := 1) rfl (by kernel_rfl) (rdL m Tryz.underlying24 (by kernel_rfl) (by decide) (rdFn m F) (fun x => wf_all (sz := 3) rfl rfl) (fun _ _ _ h k => ⟨k.1.mono h, Nat.le_trans k.2 h⟩)) (RdFs.cons (c := 1) rfl (by kernel_rfl) (rdL m Tryz.underlying25 (by kernel_rfl) (by decide) (rdLim m F) (fun x => wf_all (sz := 3) rfl rfl) (fun _ _ _ _ h => h)) (RdFs.cons (c := 1) rfl (by kernel_rfl) (rdL m Tryz.underlying25 (by kernel_rfl) (by decide) (rdLim m F) (fun x => wf_all (sz := 3) rfl rfl) (fun _ _ _ _ h => h)) (RdFs.cons (c := 1) rfl (by kernel_rfl) (rdL m Tryz.underlying26 (by kernel_rfl) (by decide) (rdCell m F) (fun x => wf_all (sz := 3) rfl rfl) (fun _ _ _ h k => Nat.le_trans k h)) (RdFs.cons (c := 1) rfl (by kernel_rfl) (rdL m Tryz.underlying27 (by kernel_rfl) (by decide) (rdExp m F) (fun x => wf_all (sz := 3) rfl rfl) (fun _ _ _ _ h => h)) (RdFs.cons (c := 1) rfl (by kernel_rfl) (Rd.bool Tryz.underlying4) (RdFs.cons (c := 1) rfl (by kernel_rfl) (Rd.int Tryz.underlying28) (RdFs.cons (c := 1) rfl (by kernel_rfl) (rdL m Tryz.underlying29 (by kernel_rfl) (by decide) (rdElem m F) (fun x => wf_all (sz := 3) rfl rfl) (fun _ _ _ h k => ⟨Nat.le_trans k.1 h, Nat.le_trans k.2 h⟩)) (RdFs.cons (c := 1) rfl (by kernel_rfl) (rdL m Tryz.underlying30 (by kernel_rfl) (by decide) (rdData m F) (fun x => wf_all (sz := 3) rfl rfl) (fun _ _ _ h k => ⟨Nat.le_trans k.1 h, k.2.mono h⟩)) (RdFs.nil))))))))))))).conv (fun p => (⟨p.1, p.2.1, p.2.2.1, p.2.2.2.1, p.2.2.2.2.1, p.2.2.2.2.2.1, p.2.2.2.2.2.2.1, p.2.2.2.2.2.2.2.1, p.2.2.2.2.2.2.2.2.1, p.2.2.2.2.2.2.2.2.2.1, p.2.2.2.2.2.2.2.2.2.2.1⟩ : GModule)) fun p n h => ?_)
  obtain ⟨k, hk, a0, b0, h0, o0, a1, b1, h1, o1, a2, b2, h2, o2, a3, b3, h3, o3, a4, b4, h4, o4, a5, b5, h5, o5, a6, b6, h6, o6, a7, b7, h7, o7, a8, b8, h8, o8, a9, b9, h9, o9, a10, b10, h10, o10, _⟩ := h
  refine ⟨rfl, fun hn => ?_⟩
  exact { types := ⟨Nat.le_trans o0.1 (by omega), fun x hx => ⟨(o0.2 x hx).1.mono (by omega), (o0.2 x hx).2.mono (by omega)⟩⟩, imports := Nat.le_trans o1.1 (by omega), funcs := ⟨Nat.le_trans o2.1 (by omega), fun x hx => ⟨(o2.2 x hx).1.mono (by omega), Nat.le_trans (o2.2 x hx).2 (by omega)⟩⟩, tables := Nat.le_trans o3.1 (by omega), memories := Nat.le_trans o4.1 (by omega), globals := ⟨Nat.le_trans o5.1 (by omega), fun x hx => Nat.le_trans (o5.2 x hx) (by omega)⟩, exports := Nat.le_trans o6.1 (by omega), elems := ⟨Nat.le_trans o9.1 (by omega), fun x hx => ⟨Nat.le_trans (o9.2 x hx).1 (by omega), Nat.le_trans (o9.2 x hx).2 (by omega)⟩⟩, datas := ⟨Nat.le_trans o10.1 (by omega), fun x hx => ⟨Nat.le_trans (o10.2 x hx).1 (by omega), (o10.2 x hx).2.mono (by omega)⟩⟩ }

end
end Go.Proofs.YtmcmaklilfgdiaaGreat
