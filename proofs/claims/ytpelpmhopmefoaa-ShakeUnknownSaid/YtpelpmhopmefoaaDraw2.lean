/-
The moves of a walk through a region that draws its order. No program in sight.
-/
import Derived.Test.YtpelpmhopmefoaaPure
import Derived.StillTail
namespace Go.Cof
set_option linter.unusedSimpArgs false

/-- An operation whose answer, if there is one, is a value. -/
def valOp : Op → Bool
  | .move _ | .assign _ | .pick .. | .build .. | .load .. | .nilCheck _ | .binOp .. | .unOp .. | .convert .. | .slice .. | .fieldAddr .. | .field .. | .indexAddr .. | .index .. | .lookup .. | .extract .. => true
  | .call { callee := .builtin .len, .. } => true
  | _ => false

section
variable {P : Program} {ops : Array Oper} {Q : Exit → Act → World → Prop}

theorem value_of {s : Sem Value} {w w' : World} {n : Next} (h : (do pure (Next.value (← s)) : Sem Next).run P w = .ok n w') : ∃ v, n = .value v ∧ s.run P w = .ok v w' := by
  rw [Sem.run_bind] at h
  cases hs : s.run P w with
  | halt q w₂ => rw [hs] at h; simp at h
  | ok v w₂ =>
    rw [hs] at h
    simp only [Result.andThen_ok, Sem.run_pure, Result.ok.injEq] at h
    exact ⟨v, h.1.symm, by rw [h.2]⟩

theorem run_value {o : Oper} {ρ : Operand → Value} {w w' : World} {n : Next} (hv : valOp o.op = true) (h : (execOp ρ o).run P w = .ok n w') : ∃ v, n = .value v := by
  obtain ⟨d, op, ty, pos, af, gd⟩ := o
  simp only at hv
  cases op <;> simp only [valOp, Bool.false_eq_true] at hv <;> simp only [execOp] at h
  case move x => simp only [Sem.run_pure, Result.ok.injEq] at h; exact ⟨_, h.1.symm⟩
  case assign x => simp only [Sem.run_pure, Result.ok.injEq] at h; exact ⟨_, h.1.symm⟩
  case nilCheck x =>
    split at h
    · exact absurd h (by simp [runtimePanic, goPanic, program, Sem.run])
    · exact absurd h (by simp [runtimePanic, goPanic, program, Sem.run])
    · exact absurd h (by simp [runtimePanic, goPanic, program, Sem.run])
    · split at h
      · exact absurd h (by simp [runtimePanic, goPanic, program, Sem.run])
      · rename_i t w₀ _
        simp only [Sem.run_bind] at h
        cases hp : (program).run P w with
        | halt q w₂ => rw [hp] at h; simp at h
        | ok p w₂ =>
          rw [hp] at h
          simp only [Result.andThen_ok] at h
          generalize ((nilAhead _ _ _ _).run P w₂) = r at h
          cases r with
          | halt q w₃ => simp at h
          | ok b w₃ =>
            simp only [Result.andThen_ok] at h
            split at h
            · simp [unsupported, Sem.run] at h
            · simp at h; exact ⟨_, h.1.symm⟩
      · simp only [Sem.run_pure, Result.ok.injEq] at h; exact ⟨_, h.1.symm⟩
    · simp only [Sem.run_pure, Result.ok.injEq] at h; exact ⟨_, h.1.symm⟩
  case pick c x y =>
    simp only [Sem.run_bind] at h
    cases hs : (asBool (ρ c)).run P w with
    | halt q w₂ => rw [hs] at h; simp at h
    | ok b w₂ =>
      rw [hs] at h
      cases b <;> simp at h <;> exact ⟨_, h.1.symm⟩
  case call c =>
    obtain ⟨callee, args, ats⟩ := c
    cases callee <;> try simp only [valOp, Bool.false_eq_true] at hv
    rename_i b
    cases b <;> try simp only [valOp, Bool.false_eq_true] at hv
    simp only [resolve, invoke, builtin, Sem.run_bind, Sem.run_pure, Result.andThen_ok] at h
    obtain ⟨v, hv, _⟩ := value_of (P := P) (s := Builtin.len_ ats ty (args.map ρ)) (by rw [Sem.run_bind]; exact h)
    exact ⟨v, hv⟩
  all_goals
    obtain ⟨v, hv, _⟩ := value_of h
    exact ⟨v, hv⟩

/-- Does the answer hang on no memory, in this frame? -/
def pureAt (P : Program) (a : Act) : Op → Bool
  | .move _ | .assign _ | .build .. | .indexAddr .. | .field .. | .index .. | .extract .. | .pick .. => true
  | .nilCheck x => match a.eval x with | .pointer _ => true | _ => false
  | .fieldAddr s _ f => match P.underlying s with
    | some (.struct fs) => match fs[f]? with | some fl => (P.info? fl.type).any (fun i => i.size != 0) | none => false
    | _ => false
  | .slice _ x _ _ _ => match a.eval x with | .slice .. => true | _ => false
  | .binOp _ _ x y _ => match a.eval x, a.eval y with | .int .., .int .. => true | _, _ => false
  | .unOp _ _ x => match a.eval x with | .int .. | .bool _ => true | _ => false
  | .convert _ d x => match a.eval x, P.underlying d with | .int .., some (.int _) => true | _, _ => false
  | .call { callee := .builtin .len, args := ⟨[x]⟩, argTypes := ⟨[_]⟩ } => match a.eval x with | .slice .. => true | _ => false
  | _ => false

theorem WI.sliceAt (t : TypeId) (n c : Nat) (a : Option Addr) (lo hi mx : Option Value) : WI P (Instr.sliceAt t (.slice a n c) lo hi mx) := by
  unfold Instr.sliceAt
  refine WI.bind (WI.underlying t) fun d => ?_
  cases d <;> first | exact WI.sliceOf _ _ _ _ _ _ _ | exact WI.bind (WI.sureAddr _) fun _ => WI.bind (WI.sliceBounds _ _ _ _ _ _) fun ⟨l, h, m⟩ => WI.bind (WI.sizeOf _) fun _ => WI.pure _

theorem WI.value {s : Sem Value} (h : WI P s) : WI P (s >>= fun v => Pure.pure (Next.value v)) := WI.bind h fun _ => WI.pure _

theorem pureCall_WI {a : Act} {c : Call} {d : Option Tmp} {ty : TypeId} {pos : String} {af : Array Edge} {gd : Option (Nat × Bool)} (h : pureAt P a (.call c) = true) : WI P (execOp a.eval { dst := d, op := .call c, type := ty, pos := pos, after := af, guard := gd }) := by
  obtain ⟨callee, ⟨args⟩, ⟨ats⟩⟩ := c
  cases callee with
  | value f => simp [pureAt] at h
  | invoke r m => simp [pureAt] at h
  | builtin b =>
    cases b <;> try (simp [pureAt] at h; done)
    match args, ats, h with
    | [], _, h => simp [pureAt] at h
    | _ :: _ :: _, _, h => simp [pureAt] at h
    | [x], [], h => simp [pureAt] at h
    | [x], _ :: _ :: _, h => simp [pureAt] at h
    | [x], [t], h =>
      simp only [pureAt] at h
      split at h
      · rename_i hx
        rename_i y a' n c'
        rw [BigFrame.execOp_builtin, BigFrame.builtin_len]
        simp only [List.map_toArray, List.map_cons, List.map_nil, hx]
        exact WI.value WI.lenOf
      · cases h

theorem pureAt_WI {o : Oper} {a : Act} (h : pureAt P a o.op = true) : WI P (execOp a.eval o) := by
  obtain ⟨d, op, ty, pos, af, gd⟩ := o
  simp only at h
  cases op <;> simp only [pureAt, Bool.false_eq_true] at h <;> simp only [execOp]
  case move x => exact WI.pure _
  case assign x => exact WI.pure _
  case pick c x y => exact WI.bind (WI.asBool _) fun b => WI.pure _
  case build t ps => exact WI.value (WI.build _ _)
  case indexAddr t x i => exact WI.value (WI.indexAt _ _ _)
  case field t x f => exact WI.value (WI.field _ _ _)
  case index t x i => exact WI.value (WI.index _ _ _)
  case extract t i => exact WI.value (WI.extract _ _)
  case nilCheck x =>
    split at h
    · rename_i p hp
      rw [hp]
      cases p with
      | none => exact WI.nilDeref
      | some p => exact WI.pure _
    · cases h
  case fieldAddr s x f =>
    split at h
    · rename_i fs hs
      split at h
      · rename_i fl hf
        exact WI.value (WI.fieldAt s _ f fs fl hs hf h)
      · cases h
    · cases h
  case slice t x lo hi mx =>
    split at h
    · rename_i hx; rw [hx]; exact WI.value (WI.sliceAt _ _ _ _ _ _ _)
    · cases h
  case binOp op t x y yt =>
    split at h
    · rename_i hx hy
      rw [hx, hy]
      exact WI.value (WI.bind (WI.guardInt _ _ _ _ _ _ _ _) fun _ => WI.binInt _ _ _ _ _ _)
    · cases h
  case unOp op t x =>
    split at h
    · rename_i hx; rw [hx]; exact WI.value (WI.unaryInt _ _ _)
    · rename_i hx; rw [hx]; exact WI.value (WI.unaryBool _ _)
    · cases h
  case convert s d' x =>
    split at h
    · rename_i hx hd; rw [hx]; exact WI.value (WI.convInt _ _ _ _ _ hd)
    · cases h
  case call c => exact pureCall_WI (d := d) (ty := ty) (pos := pos) (af := af) (gd := gd) (by simpa only [pureAt] using h)

/-- The walk's goal in a region that draws its order: 'pend': reads that are behind us and must go on reading so; 'listed': what has come. -/
def wpY (P : Program) (ops : Array Oper) (Q : Exit → Act → World → Prop) (pend : List Nat) (fuel : Nat) (listed : Array Bool) (a : Act) (w : World) : Prop :=
  (∀ k ∈ pend, Again P ops k a w) → Closed ops listed → wpX P ops (NoPanic Q) pend fuel listed a w

def AgainL (P : Program) (ops : Array Oper) : List Nat → Act → World → Prop
  | [], _, _ => True
  | k :: r, a, w => Again P ops k a w ∧ AgainL P ops r a w

theorem AgainL.all : ∀ {l : List Nat} {a : Act} {w : World}, AgainL P ops l a w → ∀ k ∈ l, Again P ops k a w
  | [], _, _, _, k, hk => by cases hk
  | x :: r, a, w, h, k, hk => by
    rcases List.mem_cons.1 hk with rfl | hk
    · exact h.1
    · exact AgainL.all h.2 k hk

def elsewhere (ops : Array Oper) (pend : List Nat) (oi : Oper) : Bool :=
  pend.all fun k => match ops[k]? with
    | some ok => match oi.dst with
      | some d => !(ok.looksAt ops).contains d && !(ok.dst == some d)
      | none => true
    | none => true

theorem elsewhere_spec {pend : List Nat} {oi : Oper} (h : elsewhere ops pend oi = true) : ∀ k ∈ pend, ∀ ok, ops[k]? = some ok → ∀ d, oi.dst = some d → d ∉ ok.looksAt ops ∧ ok.dst ≠ some d := by
  intro k hk ok hok d hd
  have h1 := List.all_eq_true.1 h k hk
  simp only [hok, hd, Bool.and_eq_true, Bool.not_eq_true', List.contains_eq_mem, decide_eq_false_iff_not, beq_eq_false_iff_ne] at h1
  exact h1

def takeOk (ops : Array Oper) (pend : List Nat) (listed : Array Bool) (i : Nat) : Bool :=
  Region.noSelect ops && Region.free .any ops listed i && (Region.ready .any ops listed).contains i && match ops[i]? with
    | some oi => elsewhere ops pend oi && (match oi.dst with | some d => !(oi.looksAt ops).contains d | none => true)
    | none => false

theorem takeOk_spec {pend : List Nat} {listed : Array Bool} {i : Nat} {oi : Oper} (hi : ops[i]? = some oi) (h : takeOk ops pend listed i = true) :
    Region.noSelect ops = true ∧ Region.free .any ops listed i = true ∧ i ∈ Region.ready .any ops listed ∧ (∀ k ∈ pend, ∀ ok, ops[k]? = some ok → ∀ d, oi.dst = some d → d ∉ ok.looksAt ops ∧ ok.dst ≠ some d) ∧
      ∀ d, oi.dst = some d → d ∉ oi.looksAt ops := by
  simp only [takeOk, hi, Bool.and_eq_true, List.contains_eq_mem, decide_eq_true_eq] at h
  obtain ⟨⟨⟨h1, h2⟩, h3⟩, h4, h5⟩ := h
  refine ⟨h1, h2, h3, elsewhere_spec h4, fun d hd => ?_⟩
  simpa [hd] using h5

/-- One operation, run by the walk's own means, that leaves the world alone. -/
theorem took {oi : Oper} {a : Act} {w : World} {R : Act → Prop} (hv : valOp oi.op = true)
    (h : ∀ K : Act → World → Prop, (∀ a', R a' → K a' w) → if Region.wanted oi (yielded ops a.tmps) = true then oi.wp P a w K (fun _ _ _ => False) else K (a.put oi.dst undef) w) :
    ∃ v, YieldsNow P ops oi v a w ∧ R (a.put oi.dst v) := by
  have h1 := h (fun a' w' => w' = w ∧ R a') (fun a' hr => ⟨rfl, hr⟩)
  cases hw : Region.wanted oi (yielded ops a.tmps) with
  | false =>
    rw [hw] at h1
    simp only [Bool.false_eq_true, if_false] at h1
    exact ⟨undef, .inr ⟨hw, rfl⟩, h1.2⟩
  | true =>
    rw [hw] at h1
    simp only [if_true] at h1
    unfold Oper.wp at h1
    cases hr : (execOp a.eval oi).run P w with
    | halt x w' =>
      rw [hr] at h1
      cases x <;> exact h1.elim
    | ok n w' =>
      obtain ⟨v, rfl⟩ := run_value hv hr
      rw [hr, Oper.upon_value] at h1
      obtain ⟨rfl, h2⟩ := h1
      exact ⟨v, .inl ⟨hw, hr⟩, h2⟩

theorem YieldsNow.yields {oi : Oper} {a : Act} {w : World} {v : Value} (h : YieldsNow P ops oi v a w) (hp : pureAt P a oi.op = true) : Yields P ops oi v a :=
  h.imp (fun ⟨h1, h2⟩ => ⟨h1, (pureAt_WI hp _ _ _ h2).2⟩) id

section
variable {pend : List Nat} {fuel : Nat} {listed : Array Bool} {a : Act} {w : World} {i : Nat} {oi : Oper}

/-- What hangs on no memory. -/
theorem wpY_pure (i : Nat) (hi : ops[i]? = some oi) (hc : takeOk ops pend listed i = true) (hp : (pureAt P a oi.op && valOp oi.op) = true)
    (h : ∀ K : Act → World → Prop, (∀ a', wpY P ops Q pend fuel (listed.setIfInBounds i true) a' w → K a' w) → if Region.wanted oi (yielded ops a.tmps) = true then oi.wp P a w K (fun _ _ _ => False) else K (a.put oi.dst undef) w) :
    wpY P ops Q pend (fuel + 1) listed a w := by
  intro hag hcl
  simp only [Bool.and_eq_true] at hp
  obtain ⟨h1, h2, h3, h4, h5⟩ := takeOk_spec hi hc
  obtain ⟨v, hy, hr⟩ := took hp.2 h
  exact wpX_firstP hi (Region.noSelect_spec h1) fuel pend listed a w v hcl (Region.free_spec hi h2) h4 h3 (hy.yields hp.1) hag
    (hr (fun k hk => again_put (Region.noSelect_spec h1) k a w v (h4 k hk) (hag k hk)) (hcl.set h3))

/-- What reads memory. -/
theorem wpY_read (i : Nat) (hi : ops[i]? = some oi) (hc : takeOk ops pend listed i = true) (hv : valOp oi.op = true)
    (h : ∀ K : Act → World → Prop, (∀ a', wpY P ops Q (i :: pend) fuel (listed.setIfInBounds i true) a' w → K a' w) → if Region.wanted oi (yielded ops a.tmps) = true then oi.wp P a w K (fun _ _ _ => False) else K (a.put oi.dst undef) w) :
    wpY P ops Q pend (fuel + 1) listed a w := by
  intro hag hcl
  obtain ⟨h1, h2, h3, h4, h5⟩ := takeOk_spec hi hc
  obtain ⟨v, hy, hr⟩ := took hv h
  have hold : ∀ k ∈ pend, Again P ops k (a.put oi.dst v) w := fun k hk => again_put (Region.noSelect_spec h1) k a w v (h4 k hk) (hag k hk)
  refine wpX_first hi (Region.noSelect_spec h1) h5 fuel pend listed a w v hcl (Region.free_spec hi h2) h4 h3 hy hag (hr (fun k hk => ?_) (hcl.set h3))
  rcases List.mem_cons.1 hk with rfl | hk
  · exact ⟨oi, v, hi, put_put a oi.dst v v, hy.of_same (execOp_put oi (fun cs b => Region.noSelect_spec h1 k oi cs b hi) a oi.dst v h5) (wanted_put oi a oi.dst v h5)⟩
  · exact hold k hk

/-- The one operation that may come next, whatever it does: behind it the pending reads read as they did. -/
theorem wpY_one (j : Nat) {oj : Oper} (pend' : List Nat) (hj : ops[j]? = some oj) (hr : Region.ready .any ops listed = [j]) (hp : (pend.filter fun k => !binds ops k j) = pend')
    (h : ∀ K : Act → World → Prop, (∀ a' w', AgainL P ops pend' a' w' ∧ wpY P ops Q pend' fuel (listed.setIfInBounds j true) a' w' → K a' w') →
      if Region.wanted oj (yielded ops a.tmps) = true then oj.wp P a w K (NoPanic Q) else K (a.put oj.dst undef) w) :
    wpY P ops Q pend (fuel + 1) listed a w := by
  intro _ hcl
  refine ⟨fun h0 => (by rw [hr] at h0; cases h0), fun k hk => ?_⟩
  rw [hr] at hk
  obtain rfl : k = j := by simpa using hk
  subst hp
  unfold wpOp
  simp only [hj]
  have h1 := h _ (fun a' w' hh => (⟨fun k hk hb => hh.1.all k (List.mem_filter.2 ⟨hk, by simpa using hb⟩), hh.2 hh.1.all (hcl.set (by rw [hr]; simp))⟩ : _ ∧ _))
  split
  · rename_i hw; rw [hw] at h1; exact .inl h1
  · rename_i hw; rw [if_neg hw] at h1; exact h1

theorem wpY_two (j k : Nat) {oj ok : Oper} (pj pk : List Nat) (hj : ops[j]? = some oj) (hk : ops[k]? = some ok) (hr : Region.ready .any ops listed = [j, k])
    (hpj : (pend.filter fun x => !binds ops x j) = pj) (hpk : (pend.filter fun x => !binds ops x k) = pk)
    (h1 : ∀ K : Act → World → Prop, (∀ a' w', AgainL P ops pj a' w' ∧ wpY P ops Q pj fuel (listed.setIfInBounds j true) a' w' → K a' w') →
      if Region.wanted oj (yielded ops a.tmps) = true then oj.wp P a w K (NoPanic Q) else K (a.put oj.dst undef) w)
    (h2 : ∀ K : Act → World → Prop, (∀ a' w', AgainL P ops pk a' w' ∧ wpY P ops Q pk fuel (listed.setIfInBounds k true) a' w' → K a' w') →
      if Region.wanted ok (yielded ops a.tmps) = true then ok.wp P a w K (NoPanic Q) else K (a.put ok.dst undef) w) :
    wpY P ops Q pend (fuel + 1) listed a w := by
  intro _ hcl
  subst hpj
  subst hpk
  refine ⟨fun h0 => (by rw [hr] at h0; cases h0), fun x hx => ?_⟩
  rw [hr] at hx
  have g1 := h1 _ (fun a' w' hh => (⟨fun k hk hb => hh.1.all k (List.mem_filter.2 ⟨hk, by simpa using hb⟩), hh.2 hh.1.all (hcl.set (by rw [hr]; simp))⟩ : _ ∧ _))
  have g2 := h2 _ (fun a' w' hh => (⟨fun k hk hb => hh.1.all k (List.mem_filter.2 ⟨hk, by simpa using hb⟩), hh.2 hh.1.all (hcl.set (by rw [hr]; simp))⟩ : _ ∧ _))
  unfold wpOp
  rcases List.mem_cons.1 hx with rfl | hx
  · simp only [hj]
    split
    · rename_i hw; rw [hw] at g1; exact .inl g1
    · rename_i hw; rw [if_neg hw] at g1; exact g1
  · obtain rfl : x = k := by simpa using hx
    simp only [hk]
    split
    · rename_i hw; rw [hw] at g2; exact .inl g2
    · rename_i hw; rw [if_neg hw] at g2; exact g2

theorem wpY_done (hr : Region.ready .any ops listed = []) (h : Q .normal a w) : ∀ fuel, wpY P ops Q pend fuel listed a w
  | 0 => fun _ _ => ⟨hr, h⟩
  | _ + 1 => fun _ _ => ⟨fun _ => h, by rw [hr]; simp⟩

/-- It reads as it did. -/
theorem again_run {k : Nat} {ok : Oper} (hk : ops[k]? = some ok) (hv : valOp ok.op = true)
    (h : ∀ K : Act → World → Prop, (∀ _ : True, K a w) → if Region.wanted ok (yielded ops a.tmps) = true then ok.wp P a w K (fun _ _ _ => False) else K (a.put ok.dst undef) w) : Again P ops k a w := by
  obtain ⟨v, hy, hr⟩ := took (R := fun a' => a' = a) hv (fun K hK => h K (fun _ => hK a rfl))
  exact ⟨ok, v, hk, hr, hy⟩

theorem if_plain {o : Oper} {A B : Prop} (hg : o.guard = none) (h : A) : if Region.wanted o (yielded ops a.tmps) = true then A else B := by
  rw [if_pos (by simp [Region.wanted, hg])]
  exact h

theorem wpY_pure0 (i : Nat) (hi : ops[i]? = some oi) (hg : oi.guard = none) (hc : takeOk ops pend listed i = true) (hp : (pureAt P a oi.op && valOp oi.op) = true)
    (h : ∀ K : Act → World → Prop, (∀ a', wpY P ops Q pend fuel (listed.setIfInBounds i true) a' w → K a' w) → oi.wp P a w K (fun _ _ _ => False)) : wpY P ops Q pend (fuel + 1) listed a w :=
  wpY_pure i hi hc hp fun K hK => if_plain hg (h K hK)

theorem wpY_read0 (i : Nat) (hi : ops[i]? = some oi) (hg : oi.guard = none) (hc : takeOk ops pend listed i = true) (hv : valOp oi.op = true)
    (h : ∀ K : Act → World → Prop, (∀ a', wpY P ops Q (i :: pend) fuel (listed.setIfInBounds i true) a' w → K a' w) → oi.wp P a w K (fun _ _ _ => False)) : wpY P ops Q pend (fuel + 1) listed a w :=
  wpY_read i hi hc hv fun K hK => if_plain hg (h K hK)

theorem wpY_one0 (j : Nat) {oj : Oper} (pend' : List Nat) (hj : ops[j]? = some oj) (hg : oj.guard = none) (hr : Region.ready .any ops listed = [j]) (hp : (pend.filter fun k => !binds ops k j) = pend')
    (h : ∀ K : Act → World → Prop, (∀ a' w', AgainL P ops pend' a' w' ∧ wpY P ops Q pend' fuel (listed.setIfInBounds j true) a' w' → K a' w') → oj.wp P a w K (NoPanic Q)) : wpY P ops Q pend (fuel + 1) listed a w :=
  wpY_one j pend' hj hr hp fun K hK => if_plain hg (h K hK)

theorem again_run0 {k : Nat} {ok : Oper} (hk : ops[k]? = some ok) (hg : ok.guard = none) (hv : valOp ok.op = true)
    (h : ∀ K : Act → World → Prop, (∀ _ : True, K a w) → ok.wp P a w K (fun _ _ _ => False)) : Again P ops k a w :=
  again_run hk hv fun K hK => if_plain hg (h K hK)

/-- The beginning. -/
theorem wp_drawn {id : Nat} (hm : P.follows .mixedOrders = true) (h : wpY P ops Q [] ops.size (Array.replicate ops.size false) a w.drew) : (Code.region id ops true).wp P Q a w :=
  wp_region_noPanic (wp_region_any hm (wpX_any _ _ _ _ _ (h (by simp) (fun j oj _ hl => by rw [getD_replicate_false] at hl; cases hl))))
end

end
end Go.Cof
