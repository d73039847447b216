/-
Maps with whole numbers as keys, as the model keeps them: look up, update, delete, over a list of pairs.
-/
import Derived.Test.YtpelpmhopmefoaaBase
namespace Go.Cof
open Go.RowKit

def findL (k : Int) : List (Int × Value) → Nat → Option (Nat × Value)
  | [], _ => none
  | (j, v) :: r, i => if k == j then some (i, v) else findL k r (i + 1)

def kput (es : List (Int × Value)) (k : Int) (v : Value) : List (Int × Value) :=
  match findL k es 0 with
  | some (i, _) => es.set i (k, v)
  | none => es ++ [(k, v)]

def kdel (es : List (Int × Value)) (k : Int) : List (Int × Value) :=
  match findL k es 0 with
  | some (i, _) => es.eraseIdx i
  | none => es

/-- The map in block r holds these pairs, in this order; no key twice. -/
def MapL (w : World) (r : Nat) (es : List (Int × Value)) : Prop :=
  (es.map (·.1)).Nodup ∧ ∃ entries clock, w.heap[r]? = some (.map entries clock) ∧ entries.toList.map (fun e => (e.key, e.val)) = es.map fun p => (Value.int .i64 p.1, p.2)

theorem MapL.keep {S : Nat → Prop} {w w' : World} {r : Nat} {es : List (Int × Value)} (h : MapL w r es) (hf : Fr S w w') (hn : ¬ S r) : MapL w' r es := by
  obtain ⟨h1, en, cl, h2, h3⟩ := h
  exact ⟨h1, en, cl, hf.heap h2 hn, h3⟩

theorem MapL.lt {w : World} {r : Nat} {es : List (Int × Value)} (h : MapL w r es) : r < w.heap.size := by
  obtain ⟨_, _, _, h2, _⟩ := h
  exact lt_of_heap h2

theorem findNow_int {kd : IntKind} (k : Int) : ∀ (en : List MapEntry) (es : List (Int × Value)) (i : Nat), en.map (fun e => (e.key, e.val)) = es.map (fun p => (Value.int .i64 p.1, p.2)) →
    Instr.findNow (.int kd) (.int .i64 k) en i = some (findL k es i)
  | [], [], i, _ => rfl
  | [], _ :: _, _, h => by simp at h
  | _ :: _, [], _, h => by simp at h
  | e :: en, (j, v) :: es, i, h => by
    simp only [List.map_cons, List.cons.injEq, Prod.mk.injEq] at h
    obtain ⟨⟨h1, h2⟩, h3⟩ := h
    have ih := findNow_int (kd := kd) k en es (i + 1) h3
    simp only [Instr.findNow, Instr.sameNow, h1, if_true, findL]
    by_cases hk : k = j
    · subst hk; simp [h2]
    · have hb : (k == j) = false := by simpa using hk
      simp [hb, ih]

theorem findL_some {k : Int} : ∀ {es : List (Int × Value)} {i n : Nat} {v : Value}, findL k es i = some (n, v) → i ≤ n ∧ es[n - i]? = some (k, v)
  | [], _, _, _, h => by simp [findL] at h
  | (j, u) :: r, i, n, v, h => by
    simp only [findL] at h
    by_cases hk : k = j
    · subst hk
      simp at h
      obtain ⟨rfl, rfl⟩ := h
      simp
    · have hb : (k == j) = false := by simpa using hk
      simp only [hb] at h
      obtain ⟨h1, h2⟩ := findL_some (i := i + 1) h
      refine ⟨by omega, ?_⟩
      rw [show n - i = (n - (i + 1)) + 1 by omega]
      simpa using h2

theorem findL_none {k : Int} : ∀ {es : List (Int × Value)} {i : Nat}, findL k es i = none → ∀ p ∈ es, p.1 ≠ k
  | [], _, _ => by simp
  | (j, u) :: r, i, h => by
    simp only [findL] at h
    by_cases hk : k = j
    · subst hk; simp at h
    · have hb : (k == j) = false := by simpa using hk
      simp only [hb] at h
      intro p hp
      rcases List.mem_cons.1 hp with rfl | hp
      · exact fun e => hk e.symm
      · exact findL_none (i := i + 1) h p hp

/-- What a list of pairs says of a key. -/
def kget (es : List (Int × Value)) (k : Int) : Option Value := (findL k es 0).map (·.2)

theorem findL_shift (k : Int) : ∀ (es : List (Int × Value)) (i : Nat), (findL k es i).map (·.2) = kget es k
  | [], _ => rfl
  | (j, u) :: r, i => by
    simp only [kget, findL]
    by_cases hk : k = j
    · subst hk; simp
    · have hb : (k == j) = false := by simpa using hk
      simp only [hb]
      rw [if_neg (by simp), if_neg (by simp), findL_shift k r (i + 1), findL_shift k r (0 + 1)]

theorem kget_cons (k j : Int) (u : Value) (r : List (Int × Value)) : kget ((j, u) :: r) k = if k = j then some u else kget r k := by
  simp only [kget, findL]
  by_cases hk : k = j
  · subst hk; simp
  · have hb : (k == j) = false := by simpa using hk
    simp only [hb, hk, if_false]
    rw [if_neg (by simp), findL_shift]
    rfl

theorem kget_mem {es : List (Int × Value)} (hn : (es.map (·.1)).Nodup) (k : Int) (v : Value) : kget es k = some v ↔ (k, v) ∈ es := by
  induction es with
  | nil => simp [kget, findL]
  | cons p r ih =>
    obtain ⟨j, u⟩ := p
    simp only [List.map_cons, List.nodup_cons] at hn
    rw [kget_cons]
    by_cases hk : k = j
    · subst hk
      simp only [if_true, Option.some.injEq, List.mem_cons, Prod.mk.injEq, true_and]
      constructor
      · intro h; exact .inl h.symm
      · rintro (h | h)
        · exact h.symm
        · exact absurd (List.mem_map.2 ⟨(k, v), h, rfl⟩) hn.1
    · simp [hk, ih hn.2]

theorem kget_set {k : Int} (v : Value) : ∀ {es : List (Int × Value)} {i n : Nat} {u : Value}, findL k es i = some (n, u) → ∀ j, kget (es.set (n - i) (k, v)) j = if j = k then some v else kget es j
  | [], _, _, _, h => by simp [findL] at h
  | (x, y) :: r, i, n, u, h => by
    intro j
    simp only [findL] at h
    by_cases hk : k = x
    · subst hk
      simp at h
      obtain ⟨rfl, rfl⟩ := h
      simp only [Nat.sub_self, List.set_cons_zero, kget_cons]
      split <;> rfl
    · have hb : (k == x) = false := by simpa using hk
      simp only [hb] at h
      rw [if_neg (by simp)] at h
      have h1 := (findL_some (i := i + 1) h).1
      have ih := kget_set v (i := i + 1) h j
      rw [show n - i = (n - (i + 1)) + 1 by omega, List.set_cons_succ, kget_cons, ih, kget_cons]
      by_cases hj : j = x
      · subst hj; simp; omega
      · simp [hj]

theorem kget_append_new (es : List (Int × Value)) (k : Int) (v : Value) (h : ∀ p ∈ es, p.1 ≠ k) (j : Int) : kget (es ++ [(k, v)]) j = if j = k then some v else kget es j := by
  induction es with
  | nil => rw [List.nil_append, kget_cons]
  | cons p r ih =>
    obtain ⟨x, y⟩ := p
    have hx : x ≠ k := h (x, y) (by simp)
    rw [List.cons_append, kget_cons, kget_cons, ih (fun p hp => h p (by simp [hp]))]
    by_cases hj : j = x
    · subst hj; simp [hx]
    · simp [hj]

theorem kget_kput (es : List (Int × Value)) (k : Int) (v : Value) (j : Int) : kget (kput es k v) j = if j = k then some v else kget es j := by
  unfold kput
  split
  · rename_i i u h
    exact kget_set v (i := 0) h j
  · rename_i h
    exact kget_append_new es k v (findL_none h) j

theorem map_fst_set {es : List (Int × Value)} {n : Nat} {k : Int} {u v : Value} (h : es[n]? = some (k, u)) : (es.set n (k, v)).map (·.1) = es.map (·.1) := by
  rw [List.map_set]
  apply List.ext_getElem?
  intro j
  rw [List.getElem?_set]
  split
  · rename_i hj
    subst hj
    rw [List.getElem?_map, h]
    have := (List.getElem?_eq_some_iff.1 h).1
    simp [this]
  · rfl

theorem kput_nodup {es : List (Int × Value)} (hn : (es.map (·.1)).Nodup) (k : Int) (v : Value) : ((kput es k v).map (·.1)).Nodup := by
  unfold kput
  split
  · rename_i i u h
    have h2 := (findL_some h).2
    rw [map_fst_set (by simpa using h2)]
    exact hn
  · rename_i h
    rw [List.map_append, List.nodup_append]
    refine ⟨hn, by simp, ?_⟩
    intro a ha b hb
    obtain ⟨p, hp, rfl⟩ := List.mem_map.1 ha
    simp at hb
    subst hb
    exact findL_none h p hp

theorem kget_kdel {es : List (Int × Value)} (hn : (es.map (·.1)).Nodup) (k j : Int) : kget (kdel es k) j = if j = k then none else kget es j := by
  unfold kdel
  split
  · rename_i i u h
    have key : ∀ {es : List (Int × Value)} {i n : Nat} {u : Value}, (es.map (·.1)).Nodup → findL k es i = some (n, u) → kget (es.eraseIdx (n - i)) j = if j = k then none else kget es j := by
      intro es
      induction es with
      | nil => intro i n u _ h; simp [findL] at h
      | cons p r ih =>
        obtain ⟨x, y⟩ := p
        intro i n u hn h
        simp only [List.map_cons, List.nodup_cons] at hn
        simp only [findL] at h
        by_cases hk : k = x
        · subst hk
          simp at h
          obtain ⟨rfl, rfl⟩ := h
          simp only [Nat.sub_self, List.eraseIdx_cons_zero, kget_cons]
          by_cases hj : j = k
          · subst hj
            rw [if_pos rfl]
            cases hg : kget r j with
            | none => rfl
            | some z => exact absurd (List.mem_map.2 ⟨_, (kget_mem hn.2 _ _).1 hg, rfl⟩) hn.1
          · simp [hj]
        · have hb : (k == x) = false := by simpa using hk
          simp only [hb] at h
          rw [if_neg (by simp)] at h
          have h1 := (findL_some (i := i + 1) h).1
          have := ih hn.2 h
          rw [show n - i = (n - (i + 1)) + 1 by omega, List.eraseIdx_cons_succ, kget_cons, this, kget_cons]
          by_cases hj : j = x
          · subst hj; simp; omega
          · simp [hj]
    exact key (i := 0) hn h
  · rename_i h
    by_cases hj : j = k
    · subst hj
      rw [if_pos rfl]
      simp [kget, h]
    · simp [hj]

theorem kdel_nodup {es : List (Int × Value)} (hn : (es.map (·.1)).Nodup) (k : Int) : ((kdel es k).map (·.1)).Nodup := by
  unfold kdel
  split
  · exact hn.sublist ((List.eraseIdx_sublist _ _).map _)
  · exact hn

theorem map_erase {α β : Type} (f : α → β) : ∀ (l : List α) (i : Nat), (l.eraseIdx i).map f = (l.map f).eraseIdx i
  | [], _ => rfl
  | _ :: _, 0 => rfl
  | x :: r, i + 1 => by simp [map_erase f r i]

section
variable {P : Program} {w : World} {r : Nat} {es : List (Int × Value)}

theorem checkKey_int {kt : TypeId} {kd : IntKind} (hk : P.underlying kt = some (.int kd)) (empty : Bool) (n : Nat) (k : Int) (w : World) : (Instr.checkKey empty (n + 1) kt (.int .i64 k)).run P w = .ok () w := by
  simp [Instr.checkKey, run_underlying hk]

theorem run_findKey {kt : TypeId} {kd : IntKind} (hk : P.underlying kt = some (.int kd)) (k : Int) {en : Array MapEntry} (he : en.toList.map (fun e => (e.key, e.val)) = es.map fun p => (Value.int .i64 p.1, p.2)) (w : World) :
    (Instr.findKey kt (.int .i64 k) en.toList).run P w = .ok (findL k es 0) w := by
  simp [Instr.findKey, run_underlying hk, findNow_int k en.toList es 0 he]

theorem run_getMap {en : Array MapEntry} {cl : Nat} (h : w.heap[r]? = some (.map en cl)) : (getObj r).run P w = .ok (.map en cl) w := by
  simp [getObj, Sem.run, h]

/-- 'm[k]' of a map with whole numbers as keys. -/
theorem run_lookup {mt kt et : TypeId} {kd : IntKind} {z : Value} (hm : P.underlying mt = some (.map kt et)) (hk : P.underlying kt = some (.int kd)) (hz : (zeroValue et).run P w = .ok z w) (h : MapL w r es) (k : Int) (ok : Bool) :
    (Instr.lookup mt (.map (some r)) (.int .i64 k) ok).run P w = .ok (if ok then .tuple #[(kget es k).getD z, .bool (kget es k).isSome] else (kget es k).getD z) w := by
  obtain ⟨_, en, cl, h2, h3⟩ := h
  have hc := fun e => checkKey_int (P := P) hk e 9999 k w
  have hf := run_findKey (P := P) hk k h3 w
  unfold Instr.lookup
  simp only [Sem.run_bind, run_underlying hm, Result.andThen_ok, run_getMap h2, Sem.run_pure, hc, hf]
  unfold kget
  cases hl : findL k es 0 with
  | none => cases ok <;> simp [hz]
  | some p => cases ok <;> simp

/-- 'm[k] = v'. -/
theorem run_update {mt kt et : TypeId} {kd : IntKind} (hm : P.underlying mt = some (.map kt et)) (hk : P.underlying kt = some (.int kd)) (h : MapL w r es) (k : Int) (v : Value) :
    ∃ w', (Instr.mapUpdate mt (.map (some r)) (.int .i64 k) v).run P w = .ok () w' ∧ MapL w' r (kput es k v) ∧ Fr (fun b => b = r) w w' := by
  obtain ⟨hn, en, cl, h2, h3⟩ := h
  have hc := checkKey_int (P := P) hk false 9999 k w
  have hf := run_findKey (P := P) hk k h3 w
  have hlen : en.size = es.length := by simpa using congrArg List.length h3
  have hnew : ∀ o, ({ w with heap := w.heap.setIfInBounds r o } : World).heap[r]? = some o := fun o => by
    have := lt_of_heap h2
    simp [this]
  have hfr : ∀ o, Fr (fun b => b = r) w ({ w with heap := w.heap.setIfInBounds r o } : World) := fun o =>
    ⟨rfl, rfl, rfl, by simp, fun b _ hb => by simp only [Array.getElem?_setIfInBounds]; rw [if_neg (fun e => hb e.symm)]⟩
  unfold Instr.mapUpdate
  simp only [Sem.run_bind, run_underlying hm, Result.andThen_ok, run_getMap h2, hc, hf]
  cases hl : findL k es 0 with
  | none =>
    have hkp : kput es k v = es ++ [(k, v)] := by simp [kput, hl]
    have hnd := kput_nodup hn k v
    rw [hkp] at hnd ⊢
    refine ⟨_, ?_, ⟨hnd, _, _, hnew (.map (en.push { key := .int .i64 k, val := v, born := cl }) (cl + 1)), ?_⟩, hfr _⟩
    · simp [setObj, Sem.run, h2]
    · simp [h3]
  | some p =>
    obtain ⟨i, u⟩ := p
    have hs := (findL_some hl).2
    simp only [Nat.sub_zero] at hs
    have hi : i < en.size := by rw [hlen]; exact (List.getElem?_eq_some_iff.1 hs).1
    have hkp : kput es k v = es.set i (k, v) := by simp [kput, hl]
    have hnd := kput_nodup hn k v
    rw [hkp] at hnd ⊢
    have hkey : (en[i]).key = .int .i64 k := by
      have h4 := congrArg (fun l => l[i]?) h3
      simp only [List.getElem?_map, hs, Option.map_some] at h4
      rw [Array.getElem?_toList, Array.getElem?_eq_getElem hi] at h4
      simpa using (congrArg Prod.fst (Option.some.inj h4))
    refine ⟨_, ?_, ⟨hnd, _, _, hnew (.map (en.modify i fun e => { e with key := .int .i64 k, val := v }) cl), ?_⟩, hfr _⟩
    · simp [Instr.keyThatStays, hi, hkey, Instr.sameBits, setObj, Sem.run, h2]
    · apply List.ext_getElem?
      intro j
      have h4 := congrArg (fun l => l[j]?) h3
      simp only [List.getElem?_map, Array.getElem?_toList] at h4
      simp only [List.getElem?_map, Array.getElem?_toList, Array.getElem?_modify, List.getElem?_set]
      by_cases hj : i = j
      · subst hj
        have : i < es.length := by omega
        simp [hi, this]
      · simp only [hj, if_false]
        exact h4

/-- 'delete(m, k)'. -/
theorem run_delete {mt kt et ty : TypeId} {ats : Array TypeId} {kd : IntKind} (hat : ats[0]? = some mt) (hm : P.underlying mt = some (.map kt et)) (hk : P.underlying kt = some (.int kd)) (h : MapL w r es) (k : Int) :
    ∃ w', (Builtin.delete_ ats ty #[.map (some r), .int .i64 k]).run P w = .ok (.tuple #[]) w' ∧ MapL w' r (kdel es k) ∧ Fr (fun b => b = r) w w' := by
  obtain ⟨hn, en, cl, h2, h3⟩ := h
  have hc := fun e => checkKey_int (P := P) hk e 9999 k w
  have hf := run_findKey (P := P) hk k h3 w
  have hlen : en.size = es.length := by simpa using congrArg List.length h3
  have hnew : ∀ o, ({ w with heap := w.heap.setIfInBounds r o } : World).heap[r]? = some o := fun o => by
    have := lt_of_heap h2
    simp [this]
  have hfr : ∀ o, Fr (fun b => b = r) w ({ w with heap := w.heap.setIfInBounds r o } : World) := fun o =>
    ⟨rfl, rfl, rfl, by simp, fun b _ hb => by simp only [Array.getElem?_setIfInBounds]; rw [if_neg (fun e => hb e.symm)]⟩
  have hnd := kdel_nodup hn k
  unfold Builtin.delete_
  simp only [hat, List.getElem?_toArray, List.getElem?_cons_zero, List.getElem?_cons_succ, Sem.run_bind, run_underlying hm, Result.andThen_ok, run_getMap h2, hc, hf]
  cases hl : findL k es 0 with
  | none =>
    have hkp : kdel es k = es := by simp [kdel, hl]
    rw [hkp] at hnd ⊢
    exact ⟨_, by simp [setObj, Sem.run, h2], ⟨hnd, _, _, hnew (.map en cl), h3⟩, hfr _⟩
  | some p =>
    obtain ⟨i, u⟩ := p
    have hkp : kdel es k = es.eraseIdx i := by simp [kdel, hl]
    rw [hkp] at hnd ⊢
    refine ⟨_, by simp [setObj, Sem.run, h2], ⟨hnd, _, _, hnew (.map (en.eraseIdxIfInBounds i) cl), ?_⟩, hfr _⟩
    have hs := (findL_some hl).2
    simp only [Nat.sub_zero] at hs
    have hi : i < en.size := by rw [hlen]; exact (List.getElem?_eq_some_iff.1 hs).1
    rw [Array.toList_eraseIdxIfInBounds, map_erase, h3, map_erase]

@[go_sem] theorem run_makeMap {mt : TypeId} : (Instr.makeMap mt none).run P w = .ok (.map (some w.heap.size)) (w.alloc (.map #[] 0)) := rfl

theorem wpList_lookup {ops : Array Oper} {rest : List Oper} {o : Oper} {a : Act} {Q : Exit → Act → World → Prop} (hgd : o.guard = none) (m x : Operand) (mt : TypeId) (ok : Bool)
    (ho : o.op = .lookup mt m x ok) {kt et : TypeId} {kd : IntKind} {z : Value} (hm : P.underlying mt = some (.map kt et)) (hk : P.underlying kt = some (.int kd)) (hz : ∀ w, (zeroValue et).run P w = .ok z w)
    (hmv : a.eval m = .map (some r)) (k : Int) (hx : a.eval x = .int .i64 k) (hr : MapL w r es)
    (h : wpList P ops Q rest (a.put o.dst (if ok then .tuple #[(kget es k).getD z, .bool (kget es k).isSome] else (kget es k).getD z)) w) : wpList P ops Q (o :: rest) a w := by
  refine wpList_plain hgd fun K hK => ?_
  unfold Oper.wp execOp
  simp only [ho, hmv, hx, Sem.run_bind, run_lookup hm hk (hz w) hr k ok, Result.andThen_ok, Sem.run_pure]
  exact hK _ _ h

theorem wpList_update {ops : Array Oper} {rest : List Oper} {o : Oper} {a : Act} {Q : Exit → Act → World → Prop} (hgd : o.guard = none) (m x v : Operand) (mt : TypeId)
    (ho : o.op = .mapUpdate mt m x v) {kt et : TypeId} {kd : IntKind} (hm : P.underlying mt = some (.map kt et)) (hk : P.underlying kt = some (.int kd))
    (hmv : a.eval m = .map (some r)) (k : Int) (hx : a.eval x = .int .i64 k) (hr : MapL w r es)
    (u : Value) (hu : a.eval v = u) (h : ∀ w', MapL w' r (kput es k u) → Fr (fun b => b = r) w w' → wpList P ops Q rest (a.put o.dst undef) w') : wpList P ops Q (o :: rest) a w := by
  refine wpList_plain hgd fun K hK => ?_
  subst hu
  obtain ⟨w', h1, h2, h3⟩ := run_update (P := P) hm hk hr k (a.eval v)
  unfold Oper.wp execOp
  simp only [ho, hmv, hx, Sem.run_bind, h1, Result.andThen_ok, Sem.run_pure]
  exact hK _ _ (h w' h2 h3)

theorem wpList_delete {ops : Array Oper} {rest : List Oper} {o : Oper} {a : Act} {Q : Exit → Act → World → Prop} (hgd : o.guard = none) (m x : Operand) (mt kt' : TypeId)
    (ho : o.op = .call { callee := .builtin .delete, args := #[m, x], argTypes := #[mt, kt'] }) {kt et : TypeId} {kd : IntKind} (hm : P.underlying mt = some (.map kt et)) (hk : P.underlying kt = some (.int kd))
    (hmv : a.eval m = .map (some r)) (k : Int) (hx : a.eval x = .int .i64 k) (hr : MapL w r es)
    (h : ∀ w', MapL w' r (kdel es k) → Fr (fun b => b = r) w w' → wpList P ops Q rest (a.put o.dst (.tuple #[])) w') : wpList P ops Q (o :: rest) a w := by
  refine wpList_plain hgd fun K hK => ?_
  obtain ⟨w', h1, h2, h3⟩ := run_delete (P := P) (ty := o.type) (ats := #[mt, kt']) rfl hm hk hr k
  unfold Oper.wp execOp
  simp only [ho, resolve, invoke, builtin, hmv, hx, Sem.run_bind, List.map_toArray, List.map_cons, List.map_nil, h1, Result.andThen_ok, Sem.run_pure]
  exact hK _ _ (h w' h2 h3)

theorem op_lookup {o : Oper} {a : Act} {K : Act → World → Prop} {Q : Exit → Act → World → Prop} (m x : Operand) (mt : TypeId) (ok : Bool)
    (ho : o.op = .lookup mt m x ok) {kt et : TypeId} {kd : IntKind} {z : Value} (hm : P.underlying mt = some (.map kt et)) (hk : P.underlying kt = some (.int kd)) (hz : ∀ w, (zeroValue et).run P w = .ok z w)
    (hmv : a.eval m = .map (some r)) (k : Int) (hx : a.eval x = .int .i64 k) (hr : MapL w r es)
    (h : K (a.put o.dst (if ok then .tuple #[(kget es k).getD z, .bool (kget es k).isSome] else (kget es k).getD z)) w) : Oper.wp P o a w K Q := by
  unfold Oper.wp execOp
  simp only [ho, hmv, hx, Sem.run_bind, run_lookup hm hk (hz w) hr k ok, Result.andThen_ok, Sem.run_pure]
  exact h

theorem op_update {o : Oper} {a : Act} {K : Act → World → Prop} {Q : Exit → Act → World → Prop} (m x v : Operand) (mt : TypeId)
    (ho : o.op = .mapUpdate mt m x v) {kt et : TypeId} {kd : IntKind} (hm : P.underlying mt = some (.map kt et)) (hk : P.underlying kt = some (.int kd))
    (hmv : a.eval m = .map (some r)) (k : Int) (hx : a.eval x = .int .i64 k) (u : Value) (hu : a.eval v = u) (hr : MapL w r es)
    (h : ∀ w', MapL w' r (kput es k u) → Fr (fun b => b = r) w w' → K (a.put o.dst undef) w') : Oper.wp P o a w K Q := by
  subst hu
  obtain ⟨w', h1, h2, h3⟩ := run_update (P := P) hm hk hr k (a.eval v)
  unfold Oper.wp execOp
  simp only [ho, hmv, hx, Sem.run_bind, h1, Result.andThen_ok, Sem.run_pure]
  exact h w' h2 h3

theorem MapL.made (w : World) : MapL (w.alloc (.map #[] 0)) w.heap.size [] := ⟨by simp, #[], 0, heap_new w _, rfl⟩
end

end Go.Cof
