/-
Operations that hang on no memory: their answer is the same in every world. No program in sight.
-/
import Derived.Test.YtpelpmhopmefoaaDraw
namespace Go.Cof
set_option linter.unusedSimpArgs false

/-- Where it answers it leaves the world alone, and answers so in every world. -/
def WI (P : Program) {α : Type} (s : Sem α) : Prop := ∀ w x w₁, s.run P w = .ok x w₁ → w₁ = w ∧ ∀ w', s.run P w' = .ok x w'

section
variable {P : Program} {α β : Type}

theorem WI.pure (a : α) : WI P (Pure.pure a : Sem α) := fun w x w₁ h => by
  simp only [Sem.run_pure, Result.ok.injEq] at h
  obtain ⟨rfl, rfl⟩ := h
  exact ⟨rfl, fun _ => rfl⟩

theorem WI.halt (h : Halt) : WI P (.halt h : Sem α) := fun w x w₁ e => by simp [Sem.run] at e
theorem WI.stuck (s : String) : WI P (Go.stuck s : Sem α) := WI.halt _
theorem WI.unsup (u : Unsupported) : WI P (Go.unsupported u : Sem α) := WI.halt _

theorem WI.bind {s : Sem α} {k : α → Sem β} (h : WI P s) (hk : ∀ a, WI P (k a)) : WI P (s >>= k) := fun w x w₁ e => by
  rw [Sem.run_bind] at e
  cases hs : s.run P w with
  | halt q w₂ => rw [hs] at e; simp at e
  | ok a w₂ =>
    rw [hs] at e
    simp only [Result.andThen_ok] at e
    obtain ⟨rfl, h1⟩ := h w a w₂ hs
    obtain ⟨rfl, h2⟩ := hk a w₂ x w₁ e
    exact ⟨rfl, fun w' => by rw [Sem.run_bind, h1 w']; exact h2 w'⟩

theorem WI.never {s : Sem α} (h : ∀ w x w₁, s.run P w ≠ .ok x w₁) : WI P s := fun w x w₁ e => absurd e (h w x w₁)

theorem WI.program : WI P Go.program := fun w x w₁ e => by
  simp only [Go.program, Sem.run, Result.ok.injEq] at e
  obtain ⟨rfl, rfl⟩ := e
  exact ⟨rfl, fun _ => rfl⟩

theorem WI.typeInfo (t : TypeId) : WI P (Go.typeInfo t) := by
  unfold Go.typeInfo
  refine WI.bind WI.program fun p => ?_
  split
  · exact WI.pure _
  · exact WI.stuck _

theorem WI.underlying (t : TypeId) : WI P (Go.underlying t) := by
  unfold Go.underlying
  refine WI.bind WI.program fun p => ?_
  split
  · exact WI.pure _
  · exact WI.stuck _

theorem WI.sizeOf (t : TypeId) : WI P (Go.sizeOf t) := WI.bind (WI.typeInfo t) fun _ => WI.pure _
theorem WI.zeroValue (t : TypeId) : WI P (Go.zeroValue t) := by
  unfold Go.zeroValue
  refine WI.bind (WI.typeInfo t) fun i => ?_
  split
  · exact WI.pure _
  · exact WI.unsup _
theorem WI.isAgg (t : TypeId) : WI P (Go.isAgg t) := by
  unfold Go.isAgg
  refine WI.bind (WI.underlying t) fun d => ?_
  split <;> exact WI.pure _
theorem WI.asIntOf (v : Value) : WI P (Go.asIntOf v) := by
  unfold Go.asIntOf
  split
  · exact WI.pure _
  · exact WI.unsup _
  · exact WI.stuck _
theorem WI.asInt (v : Value) : WI P (Go.asInt v) := WI.bind (WI.asIntOf v) fun _ => WI.pure _
theorem WI.asBool (v : Value) : WI P (Go.asBool v) := by
  unfold Go.asBool
  split
  · exact WI.pure _
  · exact WI.stuck _
theorem WI.asAgg (v : Value) : WI P (Go.asAgg v) := by
  unfold Go.asAgg
  split
  · exact WI.pure _
  · exact WI.stuck _
theorem WI.sureAddr (v : Value) : WI P (Instr.sureAddr v) := by
  unfold Instr.sureAddr
  split
  · exact WI.pure _
  · exact WI.stuck _
theorem WI.part (t : TypeId) (cs : Array Value) (o : Nat) : WI P (Go.part t cs o) := by
  unfold Go.part
  refine WI.bind (WI.isAgg t) fun b => ?_
  split
  · exact WI.bind (WI.sizeOf t) fun _ => WI.pure _
  · split
    · exact WI.pure _
    · exact WI.stuck _

theorem never_panic_bounds (x y : Int) (s : Bool) (c : BoundsCode) : ∀ w (z : α) w₁, (runtimePanic (.bounds x y s c) : Sem α).run P w ≠ .ok z w₁ := by
  intro w z w₁ h
  simp [runtimePanic, goPanic, program, Sem.run] at h
theorem WI.panicErr (m : String) : WI P (runtimePanic (.error m) : Sem α) := WI.never fun w z w₁ h => by simp [runtimePanic, goPanic, program, Sem.run] at h
theorem WI.nilDeref : WI P (runtimePanic .nilDeref : Sem α) := WI.never fun w z w₁ h => by simp [runtimePanic, goPanic, program, Sem.run] at h
theorem WI.bind_never {s : Sem α} {k : α → Sem β} (h : ∀ a w x w₁, (k a).run P w ≠ .ok x w₁) : WI P (s >>= k) := WI.never fun w x w₁ e => by
  rw [Sem.run_bind] at e
  cases hs : s.run P w with
  | halt q w₂ => rw [hs] at e; simp at e
  | ok a w₂ => rw [hs] at e; exact h a w₂ x w₁ e
theorem WI.bounds (k : IntKind) (x y : Int) (c : BoundsCode) : WI P (boundsPanic k x y c : Sem α) := by
  unfold boundsPanic
  dsimp only
  split
  · exact WI.bind_never fun a w z w₁ => never_panic_bounds _ _ _ _ w z w₁
  · exact WI.bind_never fun a w z w₁ => never_panic_bounds _ _ _ _ w z w₁

theorem WI.listMapM {γ : Type} (f : γ → Sem α) (hf : ∀ x, WI P (f x)) : ∀ l : List γ, WI P (l.mapM f)
  | [] => by rw [List.mapM_nil]; exact WI.pure _
  | x :: r => by rw [List.mapM_cons]; exact WI.bind (hf x) fun _ => WI.bind (WI.listMapM f hf r) fun _ => WI.pure _

theorem WI.map {s : Sem α} (f : α → β) (h : WI P s) : WI P (f <$> s) := fun w x w₁ e => by
  rw [Sem.run_map] at e
  cases hs : s.run P w with
  | halt q w₂ => rw [hs] at e; simp at e
  | ok a w₂ =>
    rw [hs] at e
    simp only [Result.andThen_ok, Result.ok.injEq] at e
    obtain ⟨rfl, rfl⟩ := e
    obtain ⟨rfl, h1⟩ := h w a _ hs
    exact ⟨rfl, fun w' => by rw [Sem.run_map, h1 w']; rfl⟩

theorem WI.arrayMapM {γ : Type} (f : γ → Sem α) (hf : ∀ x, WI P (f x)) (a : Array γ) : WI P (a.mapM f) := by
  rw [Array.mapM_eq_mapM_toList]
  exact WI.map _ (WI.listMapM f hf a.toList)

theorem WI.build (t : TypeId) (parts : Array (Nat × Value)) : WI P (Instr.build t parts) := by
  unfold Instr.build
  refine WI.bind (WI.zeroValue t) fun z => WI.bind (WI.underlying t) fun d => ?_
  split
  · refine WI.bind (WI.arrayMapM _ (fun f => WI.bind (WI.sizeOf _) fun _ => WI.pure _) _) fun places => ?_
    split
    · exact WI.pure _
    · exact WI.stuck _
  · refine WI.bind (WI.sizeOf _) fun s => ?_
    split
    · exact WI.pure _
    · exact WI.stuck _
  · exact WI.stuck _

theorem WI.field (t : TypeId) (x : Value) (f : Nat) : WI P (Instr.field t x f) := by
  unfold Instr.field
  refine WI.bind (WI.underlying t) fun d => ?_
  split
  · split
    · exact WI.bind (WI.asAgg x) fun _ => WI.part _ _ _
    · exact WI.stuck _
  · exact WI.stuck _

theorem WI.index (t : TypeId) (x i : Value) : WI P (Instr.index t x i) := by
  unfold Instr.index
  refine WI.bind (WI.asIntOf i) fun ⟨k, j⟩ => WI.bind (WI.underlying t) fun d => ?_
  split
  · split
    · exact WI.bind (WI.sizeOf _) fun _ => WI.part _ _ _
    · exact WI.bounds _ _ _ _
  · split
    · exact WI.pure _
    · exact WI.bounds _ _ _ _
  · exact WI.stuck _

theorem WI.indexAt (t : TypeId) (x i : Value) : WI P (Instr.indexAt t x i) := by
  unfold Instr.indexAt
  refine WI.bind (WI.asIntOf i) fun ⟨k, j⟩ => WI.bind (WI.underlying t) fun d => ?_
  have tail : ∀ r : Option Addr × Nat × TypeId, WI P (match r with
      | (base, len, elem) => do
        let __do_lift ← Go.underlying t
        have tiny : Bool := decide (len ≤ 1) && match __do_lift with
          | .array _ _ => true
          | _ => false
        match base with
        | some a =>
          if 0 ≤ j ∧ j < (len : Int) then do
            let s ← Go.sizeOf elem
            Pure.pure (Value.pointer (some (a.add (j.toNat * s))))
          else if tiny = true then unsupported (.noEntry "op/indexAddr.an index out of range at an array of length 0 or 1 (ledger 616)")
          else boundsPanic k j (len : Int) .index
        | none => boundsPanic k j 0 .index) := by
    rintro ⟨base, len, elem⟩
    refine WI.bind (WI.underlying t) fun d => ?_
    cases base with
    | none => exact WI.bounds _ _ _ _
    | some a =>
      dsimp only
      split
      · exact WI.bind (WI.sizeOf _) fun _ => WI.pure _
      · generalize (decide (len ≤ 1) && match d with | .array _ _ => true | _ => false) = q
        cases q
        · exact WI.bounds _ _ _ _
        · exact WI.unsup _
  dsimp only
  split
  · exact WI.bind (WI.sureAddr x) fun _ => WI.bind (WI.pure _) fun r => tail r
  · exact WI.bind (WI.pure _) fun r => tail r
  · exact WI.bind (WI.stuck _) fun r => tail r

theorem WI.sliceBound (x : Value) (y : Nat) (c : BoundsCode) : WI P (Instr.sliceBound x y c) := by
  unfold Instr.sliceBound
  refine WI.bind (WI.asIntOf x) fun ⟨k, j⟩ => ?_
  dsimp only
  split
  · exact WI.pure _
  · exact WI.bounds _ _ _ _

theorem WI.sliceBounds (b : Bool) (len cap : Nat) (lo hi mx : Option Value) : WI P (Instr.sliceBounds b len cap lo hi mx) := by
  unfold Instr.sliceBounds
  cases mx <;> cases hi <;> cases lo <;> simp only [] <;>
    repeat (first
      | exact WI.pure _
      | exact WI.stuck _
      | exact WI.sliceBound _ _ _
      | (refine WI.bind ?_ fun _ => ?_))

theorem WI.sliceOf (t : TypeId) (n c : Nat) (a : Option Addr) (lo hi mx : Option Value) : WI P (Instr.slice t (.slice a n c) lo hi mx) := by
  unfold Instr.slice
  refine WI.bind (WI.underlying t) fun d => ?_
  cases d <;> dsimp only <;> first | exact WI.stuck _ | skip
  · exact WI.bind (WI.sliceBounds _ _ _ _ _ _) fun ⟨l, h, m⟩ => WI.bind (WI.sizeOf _) fun _ => WI.pure _

theorem WI.intOp (op : BinOp) (k : IntKind) (x y : Int) : WI P (Op.intArith op k x y) ∧ WI P (Op.intDiv op k x y) ∧ WI P (Op.intBits op k x y) ∧ WI P (Op.intCmp op x y) ∧ ∀ k', WI P (Op.shift op k x k' y) := by
  refine ⟨?_, ?_, ?_, ?_, fun k' => ?_⟩
  · unfold Op.intArith; split <;> first | exact WI.pure _ | exact WI.stuck _
  · unfold Op.intDiv
    split
    · exact WI.panicErr _
    · split <;> first | exact WI.pure _ | exact WI.stuck _
  · unfold Op.intBits; dsimp only; split <;> first | exact WI.pure _ | exact WI.stuck _
  · unfold Op.intCmp; split <;> first | exact WI.pure _ | exact WI.stuck _
  · unfold Op.shift
    split
    · exact WI.panicErr _
    · dsimp only; split <;> first | exact WI.pure _ | exact WI.stuck _

theorem WI.binInt (op : BinOp) (t : TypeId) (k k' : IntKind) (x y : Int) : WI P (binOp op t (.int k x) (.int k' y)) := by
  have h := WI.intOp (P := P) op k x y
  unfold binOp
  cases op <;> dsimp only <;> (try exact h.2.2.2.2 k') <;> (split <;> first | exact WI.stuck _ | exact h.1 | exact h.2.1 | exact h.2.2.1 | exact h.2.2.2.1)

theorem WI.guardInt (op : BinOp) (t : TypeId) (x y : Operand) (k k' : IntKind) (a b : Int) : WI P (eqGuard op t x y (.int k a) (.int k' b)) := by
  unfold eqGuard
  split <;> exact WI.pure _

theorem WI.unaryInt (op : UnOp) (k : IntKind) (n : Int) : WI P (Op.unary op (.int k n)) := by
  unfold Op.unary
  cases op <;> dsimp only <;> first | exact (WI.intOp _ _ _ _).1 | exact (WI.intOp _ _ _ _).2.2.1 | exact WI.stuck _ | exact WI.pure _
theorem WI.unaryBool (op : UnOp) (b : Bool) : WI P (Op.unary op (.bool b)) := by
  unfold Op.unary
  cases op <;> dsimp only <;> first | exact WI.stuck _ | exact WI.pure _

theorem WI.extract (v : Value) (i : Nat) : WI P (Instr.extract v i) := by
  unfold Instr.extract
  split
  · split
    · exact WI.pure _
    · exact WI.stuck _
  · exact WI.stuck _

theorem WI.convInt (s d : TypeId) (k kk : IntKind) (n : Int) (hd : P.underlying d = some (.int kk)) : WI P (convert s d (.int k n)) := by
  intro w x w₁ h
  have h1 : ∀ w, (Go.underlying d).run P w = .ok (.int kk) w := run_underlying hd
  unfold convert at h ⊢
  cases hs : P.underlying s with
  | none => simp [Go.underlying, Go.program, hs, Go.stuck, Sem.run] at h
  | some ds =>
    have h2 : ∀ w, (Go.underlying s).run P w = .ok ds w := run_underlying hs
    simp only [Sem.run_bind, h2, h1, Result.andThen_ok] at h ⊢
    cases ds <;> simp [Conv.intToInt] at h ⊢ <;> first | exact ⟨h.2.symm, h.1⟩ | exact h

theorem WI.fieldAt (s : TypeId) (x : Value) (f : Nat) (fs : Array Field) (fl : Field) (hs : P.underlying s = some (.struct fs)) (hf : fs[f]? = some fl) (hz : (P.info? fl.type).any (fun i => i.size != 0) = true) : WI P (Instr.fieldAt s x f) := by
  intro w y w₁ h
  have h1 : ∀ w, (Go.underlying s).run P w = .ok (.struct fs) w := run_underlying hs
  cases hi : P.info? fl.type with
  | none => simp [hi] at hz
  | some i =>
    have hn : i.size ≠ 0 := by simpa [hi] using hz
    have h2 : ∀ a w, (fieldPlace a fl).run P w = .ok (a.add fl.offset) w := fun a w => by
      simp [fieldPlace, Go.sizeOf, Go.typeInfo, hi, hn]
    unfold Instr.fieldAt at h ⊢
    simp only [Sem.run_bind, h1, Result.andThen_ok, hf] at h ⊢
    have h3 := WI.sureAddr (P := P) x
    cases hr : (Instr.sureAddr x).run P w with
    | halt q w₂ => rw [hr] at h; simp at h
    | ok a w₂ =>
      obtain ⟨rfl, h4⟩ := h3 w a w₂ hr
      rw [hr] at h
      simp only [Result.andThen_ok, h2, Sem.run_pure, Result.ok.injEq] at h
      refine ⟨h.2.symm, fun w' => ?_⟩
      simp [h4, h2, h.1]

theorem WI.lenOf {t : TypeId} {n c : Nat} {a : Option Addr} {ty : TypeId} : WI P (Builtin.len_ #[t] ty #[.slice a n c]) := by
  unfold Builtin.len_
  refine WI.bind (WI.underlying _) fun d => ?_
  cases d <;> first | exact WI.stuck _ | exact WI.pure _ | (refine WI.bind (WI.underlying _) fun d => ?_; cases d <;> first | exact WI.stuck _ | exact WI.pure _)

end
end Go.Cof
