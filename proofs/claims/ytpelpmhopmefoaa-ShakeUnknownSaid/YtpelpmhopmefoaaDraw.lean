/-
A region that draws its order: reads are taken as soon as they may come, and are asked for again behind every operation that is not bound to come later; whatever may come next of the others comes next. No program in sight.
-/
import Derived.OrdersHeld
import Derived.Deep.RegionHeld3
import Derived.WalkKit
namespace Go.Cof

section
variable {P : Program} {ops : Array Oper} {Q : Exit → Act → World → Prop}

/-- Now, in this world, the operation leaves v in its temporary and does nothing else. -/
def YieldsNow (P : Program) (ops : Array Oper) (o : Oper) (v : Value) (a : Act) (w : World) : Prop :=
  (Region.wanted o (yielded ops a.tmps) = true ∧ (execOp a.eval o).run P w = .ok (.value v) w) ∨ (Region.wanted o (yielded ops a.tmps) = false ∧ v = undef)

/-- .. and what it leaves is there already. -/
def Again (P : Program) (ops : Array Oper) (i : Nat) (a : Act) (w : World) : Prop :=
  ∃ o v, ops[i]? = some o ∧ a.put o.dst v = a ∧ YieldsNow P ops o v a w

theorem YieldsNow.of_same {o : Oper} {v : Value} {a a' : Act} {w : World} (hy : YieldsNow P ops o v a w) (he : execOp a'.eval o = execOp a.eval o)
    (hw : Region.wanted o (yielded ops a'.tmps) = Region.wanted o (yielded ops a.tmps)) : YieldsNow P ops o v a' w := by
  unfold YieldsNow at *
  rw [he, hw]
  exact hy

theorem YieldsNow.wpOp {i : Nat} {o : Oper} {v : Value} {a : Act} {w : World} (hi : ops[i]? = some o) (hy : YieldsNow P ops o v a w)
    {K : Act → World → Prop} (h : K (a.put o.dst v) w) : wpOp P ops Q i K a w := by
  unfold Go.wpOp
  simp only [hi]
  rcases hy with ⟨hw, hv⟩ | ⟨hw, rfl⟩
  · simp only [hw, if_true, Oper.wp, hv, Oper.upon]; exact .inl h
  · simp only [hw, Bool.false_eq_true, if_false]; exact h

theorem put_put (a : Act) (d : Option Tmp) (v u : Value) : (a.put d v).put d u = a.put d u := by
  cases d with
  | none => rfl
  | some d => simp [Act.put]

/-- The i-th is bound to come ahead of the j-th. -/
inductive Path (ops : Array Oper) (i : Nat) : Nat → Prop where
  | one {j : Nat} {oj : Oper} {e : Edge} (hj : ops[j]? = some oj) (he : e ∈ oj.after) (hb : Region.binds .any e = true) (hi : e.on = i) : Path ops i j
  | more {j k : Nat} {oj : Oper} {e : Edge} (hj : ops[j]? = some oj) (he : e ∈ oj.after) (hb : Region.binds .any e = true) (hk : e.on = k) (h : Path ops i k) : Path ops i j

def maskOf (acc : List Nat) (o : Oper) : Nat := o.after.toList.foldl (fun s e => if Region.binds .any e then s ||| 2 ^ e.on ||| acc.getD e.on 0 else s) 0
def masks : List Oper → List Nat → List Nat
  | [], acc => acc
  | o :: r, acc => masks r (acc ++ [maskOf acc o])

/-- Is the j-th bound to come behind the i-th? -/
def binds (ops : Array Oper) (i j : Nat) : Bool := ((masks ops.toList []).getD j 0).testBit i

theorem maskOf_spec (acc : List Nat) (i : Nat) : ∀ (l : List Edge) (s : Nat), (l.foldl (fun s e => if Region.binds .any e then s ||| 2 ^ e.on ||| acc.getD e.on 0 else s) s).testBit i = true →
    s.testBit i = true ∨ ∃ e ∈ l, Region.binds .any e = true ∧ (e.on = i ∨ (acc.getD e.on 0).testBit i = true)
  | [], s, h => .inl h
  | e :: l, s, h => by
    rw [List.foldl_cons] at h
    rcases maskOf_spec acc i l _ h with h1 | ⟨e', he', hb, hx⟩
    · by_cases hb : Region.binds .any e = true
      · rw [if_pos hb, Nat.testBit_or, Nat.testBit_or, Bool.or_eq_true, Bool.or_eq_true] at h1
        rcases h1 with (h1 | h1) | h1
        · exact .inl h1
        · refine .inr ⟨e, List.mem_cons_self .., hb, .inl ?_⟩
          rw [Nat.testBit_two_pow] at h1
          simpa using h1
        · exact .inr ⟨e, List.mem_cons_self .., hb, .inr h1⟩
      · rw [if_neg hb] at h1
        exact .inl h1
    · exact .inr ⟨e', List.mem_cons_of_mem _ he', hb, hx⟩

theorem masks_spec (i : Nat) : ∀ (l : List Oper) (acc : List Nat), (∀ j, l[j]? = ops[acc.length + j]?) → (∀ j, (acc.getD j 0).testBit i = true → Path ops i j) → ∀ j, ((masks l acc).getD j 0).testBit i = true → Path ops i j
  | [], acc, _, h, j, hj => h j hj
  | o :: r, acc, hl, h, j, hj => by
    refine masks_spec i r (acc ++ [maskOf acc o]) (fun k => ?_) (fun k hk => ?_) j hj
    · have := hl (k + 1)
      rw [List.getElem?_cons_succ] at this
      rw [this, List.length_append, List.length_cons, List.length_nil]
      congr 1
      omega
    · by_cases hkl : k < acc.length
      · refine h k ?_
        rwa [List.getD_eq_getElem?_getD, List.getElem?_append_left hkl, ← List.getD_eq_getElem?_getD] at hk
      · by_cases hke : k = acc.length
        · subst hke
          rw [List.getD_eq_getElem?_getD, List.getElem?_append_right (Nat.le_refl _)] at hk
          simp only [Nat.sub_self, List.getElem?_cons_zero, Option.getD_some] at hk
          have ho : ops[acc.length]? = some o := by simpa using (hl 0).symm
          rcases maskOf_spec acc i _ 0 hk with h1 | ⟨e, he, hb, hx | hx⟩
          · simp at h1
          · exact .one ho (Array.mem_toList_iff.1 he) hb hx
          · exact .more ho (Array.mem_toList_iff.1 he) hb rfl (h _ hx)
        · rw [List.getD_eq_getElem?_getD, List.getElem?_eq_none (by simp; omega)] at hk
          simp at hk

theorem binds_path {i j : Nat} (h : binds ops i j = true) : Path ops i j :=
  masks_spec i ops.toList [] (fun j => by simp) (fun j hj => by simp at hj) j h

/-- What has come has come with all that is bound to come ahead of it. -/
def Closed (ops : Array Oper) (listed : Array Bool) : Prop := ∀ j oj, ops[j]? = some oj → listed.getD j false = true → ∀ e ∈ oj.after, Region.binds .any e = true → listed.getD e.on false = true

theorem Closed.set {listed : Array Bool} {j : Nat} (h : Closed ops listed) (hj : j ∈ Region.ready .any ops listed) : Closed ops (listed.setIfInBounds j true) := by
  obtain ⟨_, oj, hoj, hall⟩ := mem_ready.1 hj
  intro k ok hk hl e he hb
  by_cases hjk : j = k
  · subst hjk
    obtain rfl : ok = oj := Option.some.inj (hk.symm.trans hoj)
    exact getD_set_true (hall e he hb)
  · rw [getD_set_ne false hjk] at hl
    exact getD_set_true (h k ok hk hl e he hb)

theorem Closed.path {listed : Array Bool} (h : Closed ops listed) {i j : Nat} (hp : Path ops i j) : ∀ oj, ops[j]? = some oj → (∀ e ∈ oj.after, Region.binds .any e = true → listed.getD e.on false = true) → listed.getD i false = true := by
  induction hp with
  | one hj he hb hi =>
    intro oj' hoj hall
    obtain rfl := Option.some.inj (hoj.symm.trans hj)
    subst hi
    exact hall _ he hb
  | @more j k oj e hj he hb hk hp ih =>
    intro oj' hoj hall
    obtain rfl := Option.some.inj (hoj.symm.trans hj)
    have hlk := hall _ he hb
    subst hk
    cases hok : ops[e.on]? with
    | none => cases hp with
      | one hj' => rw [hok] at hj'; cases hj'
      | more hj' => rw [hok] at hj'; cases hj'
    | some ok => exact ih ok hok (fun e' he' hb' => h _ ok hok hlk e' he' hb')

def noSelf (ops : Array Oper) : Bool := ops.all fun o => match o.dst with | some d => !(o.looksAt ops).contains d | none => true

/-- Whatever order is picked: behind each operation every pending read that is not bound to be past reads as it did. -/
def wpX (P : Program) (ops : Array Oper) (Q : Exit → Act → World → Prop) : List Nat → Nat → Array Bool → Act → World → Prop
  | _, 0, listed, a, w => Region.ready .any ops listed = [] ∧ Q .normal a w
  | pend, fuel + 1, listed, a, w =>
    (Region.ready .any ops listed = [] → Q .normal a w) ∧
    ∀ j ∈ Region.ready .any ops listed, wpOp P ops Q j (fun a' w' => (∀ k ∈ pend, binds ops k j = false → Again P ops k a' w') ∧
      wpX P ops Q (pend.filter fun k => !binds ops k j) fuel (listed.setIfInBounds j true) a' w') a w

theorem wpX_mono : ∀ (fuel : Nat) (p q : List Nat) (listed : Array Bool) (a : Act) (w : World), (∀ k ∈ q, k ∈ p) → wpX P ops Q p fuel listed a w → wpX P ops Q q fuel listed a w
  | 0, _, _, _, _, _, _, h => h
  | fuel + 1, p, q, listed, a, w, hs, h => ⟨h.1, fun j hj => wpOp_mono (fun a' w' h' => ⟨fun k hk hb => h'.1 k (hs k hk) hb, wpX_mono fuel _ _ _ _ _ (fun k hk => by
      simp only [List.mem_filter] at hk ⊢
      exact ⟨hs k hk.1, hk.2⟩) h'.2⟩) (h.2 j hj)⟩

theorem wpX_any : ∀ (fuel : Nat) (p : List Nat) (listed : Array Bool) (a : Act) (w : World), wpX P ops Q p fuel listed a w → wpAny P .any ops Q fuel listed a w
  | 0, _, _, _, _, h => h
  | fuel + 1, _, _, _, _, h => ⟨h.1, fun j hj => wpOp_mono (fun a' w' h' => wpX_any fuel _ _ a' w' h'.2) (h.2 j hj)⟩

theorem noPanic_put (c : List PanicEntry) (a : Act) (d : Option Tmp) (v : Value) (w : World) : NoPanic Q (.panic c) (a.put d v) w → NoPanic Q (.panic c) a w := id

/-- What stands in the frame makes no odds to an operation that does not look there. -/
theorem wpOp_put0 {j : Nat} {oi oj : Oper} {v : Value} (hj : ops[j]? = some oj) (hap : oi.apart ops oj = true)
    (hsi : ∀ cs b, oi.op ≠ .select cs b) (hsj : ∀ cs b, oj.op ≠ .select cs b) {K : Act → World → Prop} {a : Act} {w : World} (hu : Region.wanted oi (yielded ops a.tmps) = false → v = undef)
    (h : wpOp P ops (NoPanic Q) j K (a.put oi.dst v) w) : wpOp P ops (NoPanic Q) j (fun a' w' => K (a'.put oi.dst v) w') a w := by
  refine wpOp_mono (fun a' w' h => h.2) (wpOp_putIf (S := fun _ => False) hj hap hsi hsj (fun c a w h => h) ?_ h)
  cases hw : Region.wanted oi (yielded ops a.tmps) with
  | true => exact .inl ⟨hw, fun _ => False.elim⟩
  | false => exact .inr ⟨hw, hu hw⟩

/-- The frame with oi's value laid into it, seen from an operation that looks elsewhere. -/
theorem again_put {oi : Oper} (hsel : ∀ (j : Nat) (o : Oper) cs b, ops[j]? = some o → o.op ≠ .select cs b) (k : Nat) (a : Act) (w : World) (v : Value)
    (hk : ∀ ok, ops[k]? = some ok → ∀ d, oi.dst = some d → d ∉ ok.looksAt ops ∧ ok.dst ≠ some d) : Again P ops k a w → Again P ops k (a.put oi.dst v) w := by
  intro ⟨ok, u, hok, hpu, hy⟩
  have hl : ∀ d, oi.dst = some d → d ∉ ok.looksAt ops := fun d hd => (hk ok hok d hd).1
  refine ⟨ok, u, hok, ?_, hy.of_same (execOp_put ok (fun cs b => hsel k ok cs b hok) a oi.dst v hl) (wanted_put ok a oi.dst v hl)⟩
  rw [Act.put_comm a v u (fun d hd => (hk ok hok d hd).2), hpu]

theorem again_back {oi : Oper} (hsel : ∀ (j : Nat) (o : Oper) cs b, ops[j]? = some o → o.op ≠ .select cs b) (k : Nat) (a : Act) (w : World) (v : Value)
    (hk : ∀ ok, ops[k]? = some ok → ∀ d, oi.dst = some d → d ∉ ok.looksAt ops ∧ ok.dst ≠ some d) : Again P ops k (a.put oi.dst v) w → Again P ops k a w := by
  intro ⟨ok, u, hok, hpu, hy⟩
  have hl : ∀ d, oi.dst = some d → d ∉ ok.looksAt ops := fun d hd => (hk ok hok d hd).1
  refine ⟨ok, u, hok, ?_, hy.of_same (execOp_put ok (fun cs b => hsel k ok cs b hok) a oi.dst v hl).symm (wanted_put ok a oi.dst v hl).symm⟩
  cases hd : oi.dst with
  | none => simpa [hd, Act.put] using hpu
  | some d =>
    have hne := (hk ok hok d hd).2
    rw [hd] at hpu
    cases he : ok.dst with
    | none => rfl
    | some e =>
      rw [he] at hpu hne
      have hde : d ≠ e := fun h => hne (by rw [h])
      simp only [Act.put, Act.mk.injEq, and_true] at hpu ⊢
      obtain ⟨tm, df⟩ := a
      simp only [Act.mk.injEq, and_true] at hpu ⊢
      apply Array.ext_getElem?
      intro n
      have h1 := congrArg (fun x => x[n]?) hpu
      simp only [Array.getElem?_setIfInBounds] at h1 ⊢
      by_cases hn : e = n
      · subst hn
        simp only [if_true, Array.size_setIfInBounds, hde, if_false] at h1 ⊢
        exact h1
      · simp [hn]

theorem wpX_first {i : Nat} {oi : Oper} (hi : ops[i]? = some oi) (hsel : ∀ (j : Nat) (o : Oper) cs b, ops[j]? = some o → o.op ≠ .select cs b)
    (hself : ∀ d, oi.dst = some d → d ∉ oi.looksAt ops) :
    ∀ (fuel : Nat) (p : List Nat) (listed : Array Bool) (a : Act) (w : World) (v : Value), Closed ops listed →
      (∀ j oj, ops[j]? = some oj → j ≠ i → listed.getD j true = false → (∀ e ∈ oj.after, Region.binds .any e = true → e.on ≠ i) → oi.apart ops oj = true) →
      (∀ k ∈ p, ∀ ok, ops[k]? = some ok → ∀ d, oi.dst = some d → d ∉ ok.looksAt ops ∧ ok.dst ≠ some d) →
      i ∈ Region.ready .any ops listed → YieldsNow P ops oi v a w → (∀ k ∈ p, Again P ops k a w) →
      wpX P ops (NoPanic Q) (i :: p) fuel (listed.setIfInBounds i true) (a.put oi.dst v) w → wpX P ops (NoPanic Q) p (fuel + 1) listed a w := by
  intro fuel
  induction fuel with
  | zero =>
    intro p listed a w v _ _ hp2 hr hy hag H
    refine ⟨fun h => (by rw [h] at hr; cases hr), fun j hj => ?_⟩
    by_cases hji : j = i
    · subst hji
      exact hy.wpOp hi ⟨fun k hk _ => again_put hsel k a w v (hp2 k hk) (hag k hk), H⟩
    · have := ready_mono hj hji
      rw [H.1] at this
      cases this
  | succ fuel ih =>
    intro p listed a w v hcl hfree hp2 hr hy hag H
    refine ⟨fun h => (by rw [h] at hr; cases hr), fun j hj => ?_⟩
    by_cases hji : j = i
    · subst hji
      refine hy.wpOp hi ⟨fun k hk _ => again_put hsel k a w v (hp2 k hk) (hag k hk), wpX_mono _ _ _ _ _ _ (fun k hk => ?_) H⟩
      exact List.mem_cons_of_mem _ (List.mem_filter.1 hk).1
    · have h1 := H.2 j (ready_mono hj hji)
      obtain ⟨hjun, oj, hoj, hall⟩ := mem_ready.1 hj
      have hnot : ∀ e ∈ oj.after, Region.binds .any e = true → e.on ≠ i := fun e he hb heq => by
        have h1 := hall e he hb
        have h0 := (mem_ready.1 hr).1
        rw [heq] at h1
        rcases Nat.lt_or_ge i listed.size with h' | h'
        · simp [h'] at h0 h1; rw [h0] at h1; cases h1
        · simp [Array.getElem?_eq_none h'] at h1
      have hbij : binds ops i j = false := by
        cases hb : binds ops i j with
        | false => rfl
        | true =>
          have h1 := hcl.path (binds_path hb) oj hoj hall
          have h0 := (mem_ready.1 hr).1
          rcases Nat.lt_or_ge i listed.size with h' | h'
          · simp [h'] at h0 h1; rw [h0] at h1; cases h1
          · simp [Array.getElem?_eq_none h'] at h1
      have hap := hfree j oj hoj hji hjun hnot
      have h2 := wpOp_put0 hoj hap (fun cs b => hsel i oi cs b hi) (fun cs b => hsel j oj cs b hoj) (fun hw => by
        rcases hy with h | h
        · rw [hw] at h; exact absurd h.1 (by simp)
        · exact h.2) h1
      have hfree' : ∀ k ok, ops[k]? = some ok → k ≠ i → (listed.setIfInBounds j true).getD k true = false →
          (∀ e ∈ ok.after, Region.binds .any e = true → e.on ≠ i) → oi.apart ops ok = true := fun k ok hk hki hun hno => by
        refine hfree k ok hk hki ?_ hno
        by_cases hjk : j = k
        · subst hjk; exact hjun
        · rw [getD_set_ne true hjk] at hun; exact hun
      refine wpOp_mono (fun a' w' h3 => ?_) h2
      obtain ⟨h4, h5⟩ := h3
      have hi4 := h4 i (List.mem_cons_self ..) hbij
      obtain ⟨oi', v', hoi', hpv, hyv⟩ := hi4
      have : oi' = oi := Option.some.inj (hoi'.symm.trans hi)
      subst this
      have hyv' : YieldsNow P ops oi' v' a' w' := hyv.of_same (execOp_put oi' (fun cs b => hsel i oi' cs b hi) a' oi'.dst v hself).symm (wanted_put oi' a' oi'.dst v hself).symm
      have hpk : ∀ k ∈ p, binds ops k j = false → Again P ops k a' w' := fun k hk hb =>
        again_back hsel k a' w' v (hp2 k hk) (h4 k (List.mem_cons_of_mem _ hk) hb)
      refine ⟨hpk, ih _ (listed.setIfInBounds j true) a' w' v' (hcl.set hj) hfree' (fun k hk => hp2 k (List.mem_filter.1 hk).1) (ready_mono hr (Ne.symm hji)) hyv' ?_ ?_⟩
      · intro k hk
        obtain ⟨hk1, hk2⟩ := List.mem_filter.1 hk
        exact hpk k hk1 (by simpa using hk2)
      · rw [Array.setIfInBounds_comm _ _ hji]
        have hv2 : a'.put oi'.dst v' = a'.put oi'.dst v := by rw [← hpv, put_put]
        rw [hv2]
        have : ((i :: p).filter fun k => !binds ops k j) = i :: p.filter fun k => !binds ops k j := by simp [hbij]
        rw [this] at h5
        exact h5

theorem wpX_firstP {i : Nat} {oi : Oper} (hi : ops[i]? = some oi) (hsel : ∀ (j : Nat) (o : Oper) cs b, ops[j]? = some o → o.op ≠ .select cs b) :
    ∀ (fuel : Nat) (p : List Nat) (listed : Array Bool) (a : Act) (w : World) (v : Value), Closed ops listed →
      (∀ j oj, ops[j]? = some oj → j ≠ i → listed.getD j true = false → (∀ e ∈ oj.after, Region.binds .any e = true → e.on ≠ i) → oi.apart ops oj = true) →
      (∀ k ∈ p, ∀ ok, ops[k]? = some ok → ∀ d, oi.dst = some d → d ∉ ok.looksAt ops ∧ ok.dst ≠ some d) →
      i ∈ Region.ready .any ops listed → Yields P ops oi v a → (∀ k ∈ p, Again P ops k a w) →
      wpX P ops (NoPanic Q) p fuel (listed.setIfInBounds i true) (a.put oi.dst v) w → wpX P ops (NoPanic Q) p (fuel + 1) listed a w := by
  intro fuel
  induction fuel with
  | zero =>
    intro p listed a w v _ _ hp2 hr hy hag H
    refine ⟨fun h => (by rw [h] at hr; cases hr), fun j hj => ?_⟩
    by_cases hji : j = i
    · subst hji
      exact hy.wpOp hi ⟨fun k hk _ => again_put hsel k a w v (hp2 k hk) (hag k hk), H⟩
    · have := ready_mono hj hji
      rw [H.1] at this
      cases this
  | succ fuel ih =>
    intro p listed a w v hcl hfree hp2 hr hy hag H
    refine ⟨fun h => (by rw [h] at hr; cases hr), fun j hj => ?_⟩
    by_cases hji : j = i
    · subst hji
      exact hy.wpOp hi ⟨fun k hk _ => again_put hsel k a w v (hp2 k hk) (hag k hk), wpX_mono _ _ _ _ _ _ (fun k hk => (List.mem_filter.1 hk).1) H⟩
    · have h1 := H.2 j (ready_mono hj hji)
      obtain ⟨hjun, oj, hoj, hall⟩ := mem_ready.1 hj
      have hnot : ∀ e ∈ oj.after, Region.binds .any e = true → e.on ≠ i := fun e he hb heq => by
        have h1 := hall e he hb
        have h0 := (mem_ready.1 hr).1
        rw [heq] at h1
        rcases Nat.lt_or_ge i listed.size with h' | h'
        · simp [h'] at h0 h1; rw [h0] at h1; cases h1
        · simp [Array.getElem?_eq_none h'] at h1
      have h2 := wpOp_put hoj (hfree j oj hoj hji hjun hnot) (fun cs b => hsel i oi cs b hi) (fun cs b => hsel j oj cs b hoj) (fun c a w h => h) hy h1
      have hfree' : ∀ k ok, ops[k]? = some ok → k ≠ i → (listed.setIfInBounds j true).getD k true = false →
          (∀ e ∈ ok.after, Region.binds .any e = true → e.on ≠ i) → oi.apart ops ok = true := fun k ok hk hki hun hno => by
        refine hfree k ok hk hki ?_ hno
        by_cases hjk : j = k
        · subst hjk; exact hjun
        · rw [getD_set_ne true hjk] at hun; exact hun
      refine wpOp_mono (fun a' w' h3 => ?_) h2
      obtain ⟨hy', h4, h5⟩ := h3
      have hpk : ∀ k ∈ p, binds ops k j = false → Again P ops k a' w' := fun k hk hb => again_back hsel k a' w' v (hp2 k hk) (h4 k hk hb)
      refine ⟨hpk, ih _ (listed.setIfInBounds j true) a' w' v (hcl.set hj) hfree' (fun k hk => hp2 k (List.mem_filter.1 hk).1) (ready_mono hr (Ne.symm hji)) hy' ?_ ?_⟩
      · intro k hk
        obtain ⟨hk1, hk2⟩ := List.mem_filter.1 hk
        exact hpk k hk1 (by simpa using hk2)
      · rw [Array.setIfInBounds_comm _ _ hji]
        exact h5

end
end Go.Cof
