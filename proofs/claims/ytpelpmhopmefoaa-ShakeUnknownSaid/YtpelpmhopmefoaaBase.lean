/-
Words that all walks of these seats use: frames between worlds, slices read and owned, append, copy, maps with integer keys. No program in sight.
-/
import Derived.WalkKit
import Derived.Handy
import Derived.Deep.AppendSrc
import Derived.WalkSpells
namespace Go.Cof
open Go.RowKit

/-- Between w and w' nothing turned but blocks of S and new ones. -/
structure Fr (S : Nat → Prop) (w w' : World) : Prop where
  os : w'.os = w.os
  tape : w'.tape = w.tape
  output : w'.output = w.output
  size : w.heap.size ≤ w'.heap.size
  block : ∀ k, k < w.heap.size → ¬ S k → w'.heap[k]? = w.heap[k]?

theorem Fr.refl (S : Nat → Prop) (w : World) : Fr S w w := ⟨rfl, rfl, rfl, Nat.le_refl _, fun _ _ _ => rfl⟩

theorem Fr.trans {S S' : Nat → Prop} {a b c : World} (h : Fr S a b) (k : Fr S' b c) (hs : ∀ j, j < a.heap.size → S' j → S j) : Fr S a c :=
  ⟨k.os.trans h.os, k.tape.trans h.tape, k.output.trans h.output, Nat.le_trans h.size k.size, fun j hj hn =>
    (k.block j (Nat.lt_of_lt_of_le hj h.size) (fun e => hn (hs j hj e))).trans (h.block j hj hn)⟩

theorem Fr.mono {S S' : Nat → Prop} {w w' : World} (h : Fr S w w') (hs : ∀ j, j < w.heap.size → S j → S' j) : Fr S' w w' :=
  (Fr.refl S' w).trans h hs

/-- Ahead of it nothing but new blocks. -/
theorem Fr.trans' {S : Nat → Prop} {a b c : World} (k : Fr S b c) (h : Fr (fun _ => False) a b) : Fr S a c :=
  (h.mono (S' := S) (fun _ _ => False.elim)).trans k (fun _ _ h => h)

theorem Fr.drew {S : Nat → Prop} {a w : World} (h : Fr S a w) : Fr S a w.drew := ⟨h.os, h.tape, h.output, h.size, h.block⟩

theorem Fr.alloc {S : Nat → Prop} {a w : World} (h : Fr S a w) (o : Obj) : Fr S a (w.alloc o) :=
  h.trans (S' := fun _ => False) ⟨rfl, rfl, rfl, by simp, fun k hk _ => Below.heap_alloc _ _ _ hk⟩ (fun _ _ => False.elim)

theorem Fr.setCell {S : Nat → Prop} {a w : World} (h : Fr S a w) {p : Addr} (u : Value) (hp : p.block < a.heap.size → S p.block) : Fr S a (w.setCell p u) :=
  h.trans (S' := fun k => k = p.block) ⟨rfl, rfl, rfl, by simp [World.setCell], fun k _ hn => Below.heap_setCell _ _ _ _ hn⟩ (fun j hj e => by subst e; exact hp hj)

theorem Fr.setB {S : Nat → Prop} {a w : World} (h : Fr S a w) {b : Nat} (hb : S b) (o : Nat) (u : Value) : Fr S a (w.setCell ⟨b, o, none⟩ u) := h.setCell u (fun _ => hb)

theorem Fr.of_below {B : Nat} {w w' : World} (h : Below B w w') : Fr (fun k => B ≤ k) w w' :=
  ⟨h.os, h.tape, h.output, h.size, fun k _ hn => h.block k (by omega)⟩

theorem Fr.below {S : Nat → Prop} {B : Nat} {w w' : World} (h : Fr S w w') (hB : B ≤ w.heap.size) (hs : ∀ k, k < B → ¬ S k) : Below B w w' :=
  ⟨h.os, h.tape, h.output, h.size, fun k hk => h.block k (by omega) (hs k hk)⟩

theorem Fr.of_grown {w w' : World} {row : Option Nat} (h : w.grownBy w' row) : Fr (fun k => some k = row) w w' :=
  ⟨h.os, h.tape, h.output, h.size, fun k hk hn => h.block k hk hn⟩

theorem Fr.heap {S : Nat → Prop} {w w' : World} (h : Fr S w w') {k : Nat} {o : Obj} (hk : w.heap[k]? = some o) (hn : ¬ S k) : w'.heap[k]? = some o := by
  rw [h.block k (Array.getElem?_eq_some_iff.1 hk).1 hn, hk]

theorem Fr.cell {S : Nat → Prop} {w w' : World} (h : Fr S w w') {p : Addr} {v : Value} (hk : w.cell? p = some v) (hn : ¬ S p.block) : w'.cell? p = some v :=
  (World.cell?_of_block (h.block p.block (World.block_lt_of_cell? w p hk) hn)).trans hk

theorem lt_of_heap {w : World} {k : Nat} {o : Obj} (h : w.heap[k]? = some o) : k < w.heap.size := (Array.getElem?_eq_some_iff.1 h).1

theorem cell_of {w : World} {b o : Nat} {cs : Array Value} {T : TypeId} {z : Nat × Nat} (h : w.heap[b]? = some (.cells cs T z)) : w.cell? ⟨b, o, none⟩ = cs[o]? := by
  simp [World.cell?, h]

theorem frozen_of {w : World} {b o : Nat} {cs : Array Value} {T : TypeId} {z : Nat × Nat} (h : w.heap[b]? = some (.cells cs T z)) : w.frozen? ⟨b, o, none⟩ = (z.1 ≤ o && o < z.2) := by
  simp [World.frozen?, h]

theorem heap_set {w : World} {b o : Nat} {cs : Array Value} {T : TypeId} {z : Nat × Nat} (v : Value) (h : w.heap[b]? = some (.cells cs T z)) :
    (w.setCell ⟨b, o, none⟩ v).heap[b]? = some (.cells (cs.setIfInBounds o v) T z) := by
  simp [World.setCell, Array.getElem?_modify, h]

theorem heap_set_ne {w : World} {b k o : Nat} (v : Value) (h : k ≠ b) : (w.setCell ⟨b, o, none⟩ v).heap[k]? = w.heap[k]? :=
  Below.heap_setCell _ _ _ _ h

theorem heap_new (w : World) (o : Obj) : (w.alloc o).heap[w.heap.size]? = some o := heap_alloc_new w o
theorem heap_old {w : World} (o o' : Obj) {k : Nat} (h : w.heap[k]? = some o') : (w.alloc o).heap[k]? = some o' := by
  rw [Below.heap_alloc _ _ _ (lt_of_heap h), h]

/-- The cells that a slice of n elements of sz cells reads. -/
def Rd (w : World) (sz : Nat) (v : Value) (n : Nat) (xs : List Value) : Prop :=
  ∃ a cap, v = .slice a n cap ∧ n ≤ cap ∧ xs.length = n * sz ∧ (a = none → n = 0 ∧ cap = 0) ∧ (∀ b, a = some b → b.spot = none ∧ b.block < w.heap.size ∧ ∀ j u, xs[j]? = some u → w.cell? ⟨b.block, b.off + j, none⟩ = some u)

theorem Rd.keep {S : Nat → Prop} {w w' : World} {sz n : Nat} {v : Value} {xs : List Value} (h : Rd w sz v n xs) (hf : Fr S w w') (hn : ∀ g, v.ownBlock = some g → ¬ S g) : Rd w' sz v n xs := by
  obtain ⟨a, cap, rfl, h1, h2, h3, h4⟩ := h
  refine ⟨a, cap, rfl, h1, h2, h3, fun b hb => ?_⟩
  obtain ⟨p1, p2, p3⟩ := h4 b hb
  exact ⟨p1, Nat.lt_of_lt_of_le p2 hf.size, fun j u hu => hf.cell (p3 j u hu) (hn b.block (by simp [Value.ownBlock, hb]))⟩

theorem Rd.nil (w : World) (sz : Nat) : Rd w sz (.slice none 0 0) 0 [] := ⟨none, 0, rfl, Nat.le_refl _, by simp, fun _ => ⟨rfl, rfl⟩, fun b hb => by cases hb⟩

theorem add_plain (b : Addr) (h : b.spot = none) (j : Nat) : b.add j = ⟨b.block, b.off + j, none⟩ := by
  obtain ⟨k, o, s⟩ := b
  simp only at h
  subst h
  rw [Addr.add_lit]

theorem Rd.src {P : Program} {w : World} {sz n : Nat} {v : Value} {xs : List Value} {tx e' : TypeId} (h : Rd w sz v n xs) (hk : P.underlying tx = some (.slice e')) (h1 : ∀ u ∈ xs, u.oneCell' = true) : Src P sz tx v n xs w := by
  obtain ⟨a, cap, rfl, _, h2, h3, h4⟩ := h
  cases a with
  | none =>
    obtain ⟨rfl, rfl⟩ := h3 rfl
    obtain rfl : xs = [] := List.eq_nil_of_length_eq_zero (by simpa using h2)
    exact Src.ofNil w hk 0
  | some b =>
    obtain ⟨p1, _, p3⟩ := h4 b rfl
    exact Src.ofSlice w hk b n cap xs h2 (fun j u hu => by rw [add_plain b p1]; exact p3 j u hu) h1

/-- A slice that may be written and appended to: its cells, room up to its capacity, no cell of it frozen. -/
def Sl (w : World) (e : TypeId) (sz : Nat) (v : Value) (n : Nat) (xs : List Value) : Prop :=
  xs.length = n * sz ∧
  ((v = .slice none 0 0 ∧ n = 0) ∨
   ∃ g off cap cur fz, v = .slice (some ⟨g, off, none⟩) n cap ∧ w.heap[g]? = some (.cells cur e fz) ∧ n ≤ cap ∧ cap ≤ maxLen ∧ off + cap * sz ≤ cur.size ∧
     (∀ j, j < n * sz → cur[off + j]? = xs[j]?) ∧ (∀ j, j < cap * sz → (fz.1 ≤ off + j && off + j < fz.2) = false))

theorem Sl.nil (w : World) (e : TypeId) (sz : Nat) : Sl w e sz (.slice none 0 0) 0 [] := ⟨by simp, .inl ⟨rfl, rfl⟩⟩

theorem Sl.keep {S : Nat → Prop} {w w' : World} {e : TypeId} {sz n : Nat} {v : Value} {xs : List Value} (h : Sl w e sz v n xs) (hf : Fr S w w') (hn : ∀ g, v.ownBlock = some g → ¬ S g) : Sl w' e sz v n xs := by
  refine ⟨h.1, ?_⟩
  rcases h.2 with h | ⟨g, off, cap, cur, fz, rfl, h1, h2⟩
  · exact .inl h
  · exact .inr ⟨g, off, cap, cur, fz, rfl, hf.heap h1 (hn g rfl), h2⟩

theorem Sl.rd {w : World} {e : TypeId} {sz n : Nat} {v : Value} {xs : List Value} (h : Sl w e sz v n xs) : Rd w sz v n xs := by
  rcases h.2 with ⟨rfl, rfl⟩ | ⟨g, off, cap, cur, fz, rfl, h1, h2, h3, h4, h5, h6⟩
  · obtain rfl : xs = [] := List.eq_nil_of_length_eq_zero (by simpa using h.1)
    exact Rd.nil w sz
  · refine ⟨_, _, rfl, h2, h.1, (fun e => by cases e), fun b hb => ?_⟩
    cases hb
    refine ⟨rfl, lt_of_heap h1, fun j u hu => ?_⟩
    have hj : j < xs.length := (List.getElem?_eq_some_iff.1 hu).1
    rw [cell_of h1, h5 j (by rw [← h.1]; exact hj), hu]

theorem Sl.lt {w : World} {e : TypeId} {sz n : Nat} {v : Value} {xs : List Value} (h : Sl w e sz v n xs) : ∀ g, v.ownBlock = some g → g < w.heap.size := by
  intro g hg
  rcases h.2 with ⟨rfl, _⟩ | ⟨g', off, cap, cur, fz, rfl, h1, _⟩
  · cases hg
  · cases hg; exact lt_of_heap h1

theorem Rd.lt {w : World} {sz n : Nat} {v : Value} {xs : List Value} (h : Rd w sz v n xs) : ∀ g, v.ownBlock = some g → g < w.heap.size := by
  intro g hg
  obtain ⟨a, cap, rfl, _, _, _, h4⟩ := h
  cases a with
  | none => cases hg
  | some b => cases hg; exact (h4 b rfl).2.1

theorem Sl.of_own {w : World} {e : TypeId} {base sz n : Nat} {v : Value} {xs : List Value} (h : w.ownsRow base e sz v n xs) : Sl w e sz v n xs := by
  refine ⟨h.1, ?_⟩
  rcases h.2 with h | ⟨g, cap, cur, rfl, _, hg, h1, h2, h3, h4⟩
  · exact .inl h
  · refine .inr ⟨g, 0, cap, cur, (0, 0), rfl, hg, h1, h2, by omega, fun j hj => ?_, fun j _ => by simp⟩
    rw [← h4, List.getElem?_take, if_pos hj]
    simp

theorem setCells_heap (b : Nat) : ∀ (vs : List Value) (o : Nat) (w : World) (cs : Array Value) (T : TypeId) (z : Nat × Nat), w.heap[b]? = some (.cells cs T z) → o + vs.length ≤ cs.size →
    ∃ cs', (w.setCells b o vs).heap[b]? = some (.cells cs' T z) ∧ cs'.size = cs.size ∧ (∀ j, j < vs.length → cs'[o + j]? = vs[j]?) ∧ (∀ j, j < o ∨ o + vs.length ≤ j → cs'[j]? = cs[j]?)
  | [], o, w, cs, T, z, h, _ => ⟨cs, h, rfl, fun j hj => by simp at hj, fun _ _ => rfl⟩
  | v :: r, o, w, cs, T, z, h, hl => by
    simp only [List.length_cons] at hl
    obtain ⟨cs', h1, h2, h3, h4⟩ := setCells_heap b r (o + 1) (w.setCell ⟨b, o, none⟩ v) (cs.setIfInBounds o v) T z (heap_set v h) (by simp; omega)
    refine ⟨cs', h1, by simpa using h2, fun j hj => ?_, fun j hj => ?_⟩
    · cases j with
      | zero => rw [Nat.add_zero, h4 o (.inl (by omega))]; simp [Array.getElem?_setIfInBounds]; omega
      | succ j => rw [show o + (j + 1) = o + 1 + j by omega, h3 j (by simpa using hj)]; rfl
    · simp only [List.length_cons] at hj
      rw [h4 j (by omega), Array.getElem?_setIfInBounds, if_neg (by omega)]

theorem setCells_other (b : Nat) : ∀ (vs : List Value) (o : Nat) (w : World) (k : Nat), k ≠ b → (w.setCells b o vs).heap[k]? = w.heap[k]?
  | [], _, _, _, _ => rfl
  | v :: r, o, w, k, h => by rw [World.setCells, setCells_other b r (o + 1) _ k h, heap_set_ne v h]

theorem setCells_size (b : Nat) : ∀ (vs : List Value) (o : Nat) (w : World), (w.setCells b o vs).heap.size = w.heap.size
  | [], _, _ => rfl
  | v :: r, o, w => by rw [World.setCells, setCells_size b r]; simp [World.setCell]

theorem setCells_rest (b : Nat) : ∀ (vs : List Value) (o : Nat) (w : World), (w.setCells b o vs).os = w.os ∧ (w.setCells b o vs).tape = w.tape ∧ (w.setCells b o vs).output = w.output
  | [], _, _ => ⟨rfl, rfl, rfl⟩
  | v :: r, o, w => by rw [World.setCells]; exact setCells_rest b r (o + 1) _

theorem Fr.setCells (b : Nat) (vs : List Value) (o : Nat) (w : World) : Fr (fun k => k = b) w (w.setCells b o vs) := by
  obtain ⟨h1, h2, h3⟩ := setCells_rest b vs o w
  exact ⟨h1, h2, h3, by rw [setCells_size]; exact Nat.le_refl _, fun k _ hn => setCells_other b vs o w k hn⟩

/-- What an append leaves. -/
structure Appended (w w' : World) (e : TypeId) (sz : Nat) (v v' : Value) (n : Nat) (xs : List Value) : Prop where
  sl : Sl w' e sz v' n xs
  fr : Fr (fun k => v.ownBlock = some k) w w'
  own : ∀ g, v'.ownBlock = some g → v.ownBlock = some g ∨ w.heap.size ≤ g
  nil : v' = .slice none 0 0 ↔ v = .slice none 0 0 ∧ n = 0

theorem firstCells_rd {P : Program} {w : World} {sz n cap : Nat} {a : Option Addr} {xs : List Value} (h : Rd w sz (.slice a n cap) n xs) : (Builtin.firstCells sz n (.slice a n cap)).run P w = .ok xs.toArray w := by
  obtain ⟨a', cap', h0, h1, h2, h3, h4⟩ := h
  obtain ⟨rfl, rfl⟩ : a = a' ∧ cap = cap' := by simpa using h0
  cases a with
  | none =>
    obtain ⟨rfl, rfl⟩ := h3 rfl
    obtain rfl : xs = [] := List.eq_nil_of_length_eq_zero (by simpa using h2)
    exact run_firstCells_none w sz 0 0 0
  | some b =>
    obtain ⟨p1, _, p3⟩ := h4 b rfl
    exact run_firstCells_some w sz n b n cap xs h2 (fun j u hu => by rw [add_plain b p1]; exact p3 j u hu)

theorem Rd.drew {w : World} {sz n : Nat} {v : Value} {xs : List Value} (h : Rd w sz v n xs) : Rd w.drew sz v n xs :=
  h.keep (Fr.drew (Fr.refl (fun _ => False) w)) (fun _ _ => id)

theorem run_append {P : Program} (w : World) (t tx ty e : TypeId) (i : TypeInfo) (z : Value) (sz bytes : Nat) (ht : P.underlying t = some (.slice e)) (hi : P.info? e = some i) (hz : i.zero = some z)
    (hsize : i.size = sz) (hby : i.bytes = bytes) (hzs : z.cells.size = sz) (_hsz : 0 < sz)
    (v : Value) (n : Nat) (xs : List Value) (hv : Sl w e sz v n xs) (x : Value) (m : Nat) (news : List Value) (hs : Src P sz tx x m news w)
    (h63 : n + m ≤ maxLen) (hbytes : (n + m) * bytes ≤ 140737488355328) :
    ∃ v' w', (Builtin.append_ #[t, tx] ty #[v, x]).run P w = .ok v' w' ∧ Appended w w' e sz v v' (n + m) (xs ++ news) := by
  subst hsize
  subst hby
  have hsmall : n + m ≤ 9223372036854775807 := by simp only [maxLen] at h63; omega
  have hlen : (xs ++ news).length = (n + m) * i.size := by rw [List.length_append, hv.1, hs.newsLen, Nat.add_mul]
  have grown : ∀ (base : Option Addr) (cap : Nat), v = .slice base n cap → cap < n + m → ∃ v' w', (Builtin.append_ #[t, tx] ty #[v, x]).run P w = .ok v' w' ∧ Appended w w' e i.size v v' (n + m) (xs ++ news) := by
    intro base cap hvb hg
    subst hvb
    have hr := run_append_grow_src (P := P) w t tx ty e i z ht hi hz base n cap xs (firstCells_rd hv.rd.drew) x m news hs hg (by omega) (growslice_fits hg hbytes)
    have hge := grownCap_ge w (n + m) cap e
    have hcm : grownCap w (n + m) cap e ≤ maxLen := grownCap_le_maxLen w (n + m) cap e h63
    refine ⟨_, _, hr, ⟨hlen, .inr ⟨w.heap.size, 0, _, _, (0, 0), rfl, heap_alloc_new w.drew _, hge, hcm, ?_, ?_, fun j _ => by simp⟩⟩, (Fr.drew (Fr.refl _ w)).alloc _, fun g h => ?_, ⟨fun h => by simp at h, fun h => by omega⟩⟩
    · simp only [Array.size_append, List.size_toArray, size_zeroCells, hzs, hlen, ← Nat.add_mul]
      rw [Nat.zero_add, Nat.add_sub_cancel' hge]
      exact Nat.le_refl _
    · intro j hj
      rw [Nat.zero_add, Array.getElem?_append_left (by simpa [hlen] using hj)]
      simp
    · cases h; exact .inr (Nat.le_refl _)
  rcases hv.2 with ⟨rfl, rfl⟩ | ⟨g, off, cap, cur, fz, rfl, h1, h2, h3, h4, h5, h6⟩
  · by_cases hm : m = 0
    · subst hm
      obtain rfl : xs = [] := List.eq_nil_of_length_eq_zero (by simpa using hv.1)
      obtain rfl : news = [] := List.eq_nil_of_length_eq_zero (by simpa using hs.newsLen)
      refine ⟨.slice none 0 0, w, ?_, Sl.nil w e i.size, Fr.refl _ w, fun g h => .inl h, by simp⟩
      rcases hs.kind with ⟨e', hk⟩ | hk <;> simp [Builtin.append_, run_underlying ht, run_underlying hk, sizeOf, typeInfo, hi, hs.len, hs.cells]
    · exact grown none 0 rfl (by omega)
  · by_cases hroom : n + m ≤ cap
    · have hfit : n * i.size + m * i.size ≤ cap * i.size := by rw [← Nat.add_mul]; exact Nat.mul_le_mul_right _ hroom
      have hnl := hs.newsLen
      have hr := run_append_room_src (P := P) w t tx ty e i ht hi g off n cap x m news hs hroom
        (fun j hj => by rw [cell_of h1]; simp only [Array.getElem?_eq_getElem (show off + n * i.size + j < cur.size by omega)]; rfl)
        (fun j hj => by rw [frozen_of h1, Nat.add_assoc]; exact h6 _ (by omega))
      obtain ⟨cs', k1, k2, k3, k4⟩ := setCells_heap g news (off + n * i.size) w cur e fz h1 (by omega)
      refine ⟨_, _, hr, ⟨hlen, .inr ⟨g, off, cap, cs', fz, rfl, k1, hroom, h3, by omega, fun j hj => ?_, h6⟩⟩, ?_, fun g' h => .inl h, by simp⟩
      · rw [Nat.add_mul] at hj
        by_cases hjn : j < n * i.size
        · rw [k4 _ (.inl (by omega)), h5 j hjn, List.getElem?_append_left (by rw [hv.1]; exact hjn)]
        · rw [List.getElem?_append_right (by rw [hv.1]; omega), hv.1, show off + j = off + n * i.size + (j - n * i.size) by omega, k3 _ (by omega)]
      · exact (Fr.setCells g news _ w).mono (fun j _ h => by subst h; rfl)
    · exact grown _ cap rfl (by omega)

theorem wpList_append {P : Program} (w : World) {ops : Array Oper} {rest : List Oper} {o : Oper} {a : Act} {Q : Exit → Act → World → Prop} (hgd : o.guard = none) (s x : Operand) (t tx : TypeId)
    (ho : o.op = .call { callee := .builtin .append, args := #[s, x], argTypes := #[t, tx] })
    (e : TypeId) (i : TypeInfo) (z : Value) (sz bytes : Nat) (ht : P.underlying t = some (.slice e)) (hi : P.info? e = some i) (hz : i.zero = some z)
    (hsize : i.size = sz) (hby : i.bytes = bytes) (hzs : z.cells.size = sz) (hsz : 0 < sz)
    (v : Value) (n : Nat) (xs : List Value) (hsv : a.eval s = v) (hv : Sl w e sz v n xs) (xv : Value) (m : Nat) (news : List Value) (hxv : a.eval x = xv) (hs : Src P sz tx xv m news w)
    (h63 : n + m ≤ maxLen) (hbytes : (n + m) * bytes ≤ 140737488355328)
    (h : ∀ v' w', Appended w w' e sz v v' (n + m) (xs ++ news) → wpList P ops Q rest (a.put o.dst v') w') : wpList P ops Q (o :: rest) a w := by
  refine wpList_plain hgd fun K hK => ?_
  obtain ⟨v', w', hr, h2⟩ := run_append (P := P) w t tx o.type e i z sz bytes ht hi hz hsize hby hzs hsz v n xs hv xv m news hs h63 hbytes
  unfold Oper.wp execOp
  simp only [ho, resolve, invoke, builtin, Sem.run_bind, Sem.run_pure, Result.andThen_ok, List.map_toArray, List.map_cons, List.map_nil, hsv, hxv, hr]
  exact hK _ _ (h v' w' h2)

section
variable {P : Program} (w : World) (t e k : TypeId) (a : Option Addr) (n c : Nat) (r : Option Nat)
@[go_sem] theorem eql_slice_nil (h : P.underlying t = some (.slice e)) : (binOp .eql t (.slice a n c) (.slice none 0 0)).run P w = .ok (.bool a.isNone) w := Lib.run_eql_slice_nil w t e a n c 0 0 h
@[go_sem] theorem neq_slice_nil (h : P.underlying t = some (.slice e)) : (binOp .neq t (.slice a n c) (.slice none 0 0)).run P w = .ok (.bool (!a.isNone)) w := run_neq_slice_nil_any w t e a n c 0 0 h
@[go_sem] theorem eql_map_nil (h : P.underlying t = some (.map k e)) : (binOp .eql t (.map r) (.map none)).run P w = .ok (.bool r.isNone) w := run_eql_map_nil w t k e r h
@[go_sem] theorem neq_map_nil (h : P.underlying t = some (.map k e)) : (binOp .neq t (.map r) (.map none)).run P w = .ok (.bool (!r.isNone)) w := run_neq_map_nil w t k e r h
end

/-- The same as a single operation. -/
theorem op_append {P : Program} {o : Oper} {a : Act} {w : World} {K : Act → World → Prop} {Q : Exit → Act → World → Prop} (s x : Operand) (t tx : TypeId)
    (ho : o.op = .call { callee := .builtin .append, args := #[s, x], argTypes := #[t, tx] })
    (e : TypeId) (i : TypeInfo) (z : Value) (sz bytes : Nat) (ht : P.underlying t = some (.slice e)) (hi : P.info? e = some i) (hz : i.zero = some z)
    (hsize : i.size = sz) (hby : i.bytes = bytes) (hzs : z.cells.size = sz) (hsz : 0 < sz)
    (v : Value) (n : Nat) (xs : List Value) (hsv : a.eval s = v) (hv : Sl w e sz v n xs) (xv : Value) (m : Nat) (news : List Value) (hxv : a.eval x = xv) (hs : Src P sz tx xv m news w)
    (h63 : n + m ≤ maxLen) (hbytes : (n + m) * bytes ≤ 140737488355328)
    (h : ∀ v' w', Appended w w' e sz v v' (n + m) (xs ++ news) → K (a.put o.dst v') w') : Oper.wp P o a w K Q := by
  obtain ⟨v', w', hr, h2⟩ := run_append (P := P) w t tx o.type e i z sz bytes ht hi hz hsize hby hzs hsz v n xs hv xv m news hs h63 hbytes
  unfold Oper.wp execOp
  simp only [ho, resolve, invoke, builtin, Sem.run_bind, Sem.run_pure, Result.andThen_ok, List.map_toArray, List.map_cons, List.map_nil, hsv, hxv, hr]
  exact h v' w' h2

theorem bcell {W w1 : World} (hb : Below W.heap.size W w1) : (∀ b o, b < W.heap.size → w1.cell? ⟨b, o, none⟩ = W.cell? ⟨b, o, none⟩) ∧ (∀ b o, b < W.heap.size → w1.frozen? ⟨b, o, none⟩ = W.frozen? ⟨b, o, none⟩) :=
  ⟨fun b o h => hb.cell (p := ⟨b, o, none⟩) h, fun b o h => hb.frozen (p := ⟨b, o, none⟩) h⟩

section
variable {w w1 w2 : World}
theorem old_refl (w : World) : (∀ b o, b < w.heap.size → w.cell? ⟨b, o, none⟩ = w.cell? ⟨b, o, none⟩) ∧ w.heap.size ≤ w.heap.size := ⟨fun _ _ _ => rfl, Nat.le_refl _⟩
theorem old_drew (w : World) : (∀ b o, b < w.heap.size → w.drew.cell? ⟨b, o, none⟩ = w.cell? ⟨b, o, none⟩) ∧ w.heap.size ≤ w.drew.heap.size := ⟨fun _ _ _ => rfl, Nat.le_refl _⟩
theorem old_alloc (h : (∀ b o, b < w.heap.size → w1.cell? ⟨b, o, none⟩ = w.cell? ⟨b, o, none⟩) ∧ w.heap.size ≤ w1.heap.size) (ob : Obj) :
    (∀ b o, b < w.heap.size → (w1.alloc ob).cell? ⟨b, o, none⟩ = w.cell? ⟨b, o, none⟩) ∧ w.heap.size ≤ (w1.alloc ob).heap.size :=
  ⟨fun b o hb => (World.cell?_of_block (Below.heap_alloc _ _ _ (by have := h.2; simp only; omega))).trans (h.1 b o hb), by have := h.2; simp; omega⟩
theorem old_below (h : (∀ b o, b < w.heap.size → w1.cell? ⟨b, o, none⟩ = w.cell? ⟨b, o, none⟩) ∧ w.heap.size ≤ w1.heap.size) (hb : Below w1.heap.size w1 w2) :
    (∀ b o, b < w.heap.size → w2.cell? ⟨b, o, none⟩ = w.cell? ⟨b, o, none⟩) ∧ w.heap.size ≤ w2.heap.size :=
  ⟨fun b o hl => (hb.cell (p := ⟨b, o, none⟩) (Nat.lt_of_lt_of_le hl h.2)).trans (h.1 b o hl), Nat.le_trans h.2 hb.size⟩
theorem old_set (h : (∀ b o, b < w.heap.size → w1.cell? ⟨b, o, none⟩ = w.cell? ⟨b, o, none⟩) ∧ w.heap.size ≤ w1.heap.size) {p : Addr} (hp : w.heap.size ≤ p.block) (u : Value) :
    (∀ b o, b < w.heap.size → (w1.setCell p u).cell? ⟨b, o, none⟩ = w.cell? ⟨b, o, none⟩) ∧ w.heap.size ≤ (w1.setCell p u).heap.size :=
  ⟨fun b o hb => (World.cell?_of_block (Below.heap_setCell _ _ _ _ (by simp only; omega))).trans (h.1 b o hb), by simpa [World.setCell] using h.2⟩
theorem old_fr {S : Nat → Prop} (h : (∀ b o, b < w.heap.size → w1.cell? ⟨b, o, none⟩ = w.cell? ⟨b, o, none⟩) ∧ w.heap.size ≤ w1.heap.size) (hf : Fr S w1 w2) (hs : ∀ k, k < w.heap.size → ¬ S k) :
    (∀ b o, b < w.heap.size → w2.cell? ⟨b, o, none⟩ = w.cell? ⟨b, o, none⟩) ∧ w.heap.size ≤ w2.heap.size :=
  ⟨fun b o hl => (World.cell?_of_block (hf.block b (Nat.lt_of_lt_of_le hl h.2) (hs b hl))).trans (h.1 b o hl), Nat.le_trans h.2 hf.size⟩
end

/-- All cells of a block, as rules for the walk. -/
theorem cells_in {w : World} {b : Nat} {cs : Array Value} {T : TypeId} {z : Nat × Nat} (h : w.heap[b]? = some (.cells cs T z)) : ∀ o, w.cell? ⟨b, o, none⟩ = cs[o]? := fun _ => cell_of h
theorem frozen_in {w : World} {b : Nat} {cs : Array Value} {T : TypeId} (h : w.heap[b]? = some (.cells cs T (0, 0))) : ∀ o, w.frozen? ⟨b, o, none⟩ = false := fun o => by simp [World.frozen?, h]
theorem cells_fr {S : Nat → Prop} {w w' : World} {b : Nat} {cs : Array Value} (hf : Fr S w w') (h0 : 0 < cs.size) (hn : ¬ S b) (h : ∀ o, w.cell? ⟨b, o, none⟩ = cs[o]?) : ∀ o, w'.cell? ⟨b, o, none⟩ = cs[o]? := fun o => by
  have h1 := h 0
  rw [Array.getElem?_eq_getElem h0] at h1
  have hl := World.block_lt_of_cell? w _ h1
  rw [← h o]
  exact World.cell?_of_block (hf.block b hl hn)
theorem cells_alloc {w : World} {b : Nat} {cs : Array Value} (h0 : 0 < cs.size) (h : ∀ o, w.cell? ⟨b, o, none⟩ = cs[o]?) (ob : Obj) : ∀ o, (w.alloc ob).cell? ⟨b, o, none⟩ = cs[o]? :=
  cells_fr ((Fr.refl (fun _ => False) w).alloc ob) h0 id h

theorem cell_alloc1 {w : World} {p : Addr} {v : Value} (h : w.cell? p = some v) (ob : Obj) : (w.alloc ob).cell? p = some v :=
  (Fr.alloc (Fr.refl (fun _ => False) w) ob).cell h id
theorem cell_fr1 {S : Nat → Prop} {w w' : World} {p : Addr} {v : Value} (hf : Fr S w w') (h : w.cell? p = some v) (hn : ¬ S p.block) : w'.cell? p = some v := hf.cell h hn
theorem cell_fr2 {S : Nat → Prop} {w w' : World} {p : Addr} {v : Value} (hf : Fr S w w') (h : w.cell? p = some v) (hn : ¬ S p.block) : w'.cell? p = some v ∧ p.block < w'.heap.size :=
  ⟨hf.cell h hn, Nat.lt_of_lt_of_le (World.block_lt_of_cell? w p h) hf.size⟩
theorem cell_set1 {w : World} {p q : Addr} {v : Value} (u : Value) (h : w.cell? p = some v) (hn : p.block ≠ q.block) : (w.setCell q u).cell? p = some v :=
  (World.cell?_of_block (Below.heap_setCell w q u p.block hn)).trans h

theorem Rd.block {w : World} {b sz n : Nat} {xs : List Value} {T : TypeId} {z : Nat × Nat} (h : w.heap[b]? = some (.cells xs.toArray T z)) (hl : xs.length = n * sz) : Rd w sz (.slice (some ⟨b, 0, none⟩) n n) n xs := by
  refine ⟨_, n, rfl, Nat.le_refl _, hl, (fun e => by cases e), fun p hp => ?_⟩
  cases hp
  refine ⟨rfl, lt_of_heap h, fun j u hu => ?_⟩
  rw [Nat.zero_add, cell_of h]
  simpa using hu

theorem heap_set4 {w : World} {b : Nat} {cs : Array Value} {T : TypeId} {z : Nat × Nat} (x y u v : Value) (h : w.heap[b]? = some (.cells cs T z)) (hs : cs.size = 4) :
    ((((w.setCell ⟨b, 0, none⟩ x).setCell ⟨b, 1, none⟩ y).setCell ⟨b, 2, none⟩ u).setCell ⟨b, 3, none⟩ v).heap[b]? = some (.cells #[x, y, u, v] T z) := by
  obtain ⟨l⟩ := cs
  match l, hs with
  | [p, q, r, s], _ => exact heap_set v (heap_set u (heap_set y (heap_set x h)))

theorem Sl.form {w : World} {e : TypeId} {sz n : Nat} {v : Value} {xs : List Value} (h : Sl w e sz v n xs) : ∃ a cap, v = .slice a n cap := by
  rcases h.2 with ⟨rfl, rfl⟩ | ⟨g, off, cap, _, _, rfl, _⟩
  · exact ⟨_, _, rfl⟩
  · exact ⟨_, _, rfl⟩

theorem Sl.empty (w : World) (e : TypeId) (sz : Nat) : Sl (w.alloc (.cells #[] e)) e sz (.slice (some ⟨w.heap.size, 0, none⟩) 0 0) 0 [] :=
  ⟨by simp, .inr ⟨w.heap.size, 0, 0, #[], (0, 0), rfl, heap_new w _, Nat.le_refl _, by decide, by simp, by simp, by simp⟩⟩

/-- 'copy(dst, src)', src a slice. -/
theorem run_copy {P : Program} (w : World) (dT sT ty e : TypeId) (i : TypeInfo) (sz : Nat) (ht : P.underlying dT = some (.slice e)) (hi : P.info? e = some i) (hsize : i.size = sz)
    (v : Value) (n : Nat) (ds : List Value) (hv : Sl w e sz v n ds) (x : Value) (m : Nat) (news : List Value) (hs : Rd w sz x m news) (h1 : ∀ u ∈ news, u.oneCell' = true) :
    ∃ w', (Builtin.copy_ #[dT, sT] ty #[v, x]).run P w = .ok (goInt (min m n : Nat)) w' ∧ Sl w' e sz v n (news.take (min m n * sz) ++ ds.drop (min m n * sz)) ∧ Fr (fun k => v.ownBlock = some k) w w' := by
  subst hsize
  obtain ⟨a, c, rfl, hc1, hc2, hc3, hc4⟩ := hs
  have hk : min m n ≤ m := Nat.min_le_left _ _
  have hk2 : min m n ≤ n := Nat.min_le_right _ _
  have hkm : min m n * i.size ≤ m * i.size := Nat.mul_le_mul_right _ hk
  have hkn : min m n * i.size ≤ n * i.size := Nat.mul_le_mul_right _ hk2
  have hlen : (news.take (min m n * i.size)).length = min m n * i.size := by rw [List.length_take, hc2]; omega
  have hfc : (Builtin.firstCells i.size (min m n) (.slice a m c)).run P w = .ok (news.take (min m n * i.size)).toArray w := by
    cases a with
    | none =>
      obtain ⟨rfl, rfl⟩ := hc3 rfl
      rw [Nat.zero_min, Nat.zero_mul, List.take_zero]
      exact run_firstCells_none w i.size 0 0 0
    | some b =>
      obtain ⟨p1, _, p3⟩ := hc4 b rfl
      refine run_firstCells_some w i.size (min m n) b m c _ hlen (fun j u hu => ?_)
      rw [add_plain b p1]
      refine p3 j u ?_
      rw [List.getElem?_take] at hu
      split at hu
      · exact hu
      · cases hu
  have hmin : Nat.min m n = min m n := rfl
  rcases hv.2 with ⟨rfl, rfl⟩ | ⟨g, off, cap, cur, fz, rfl, g1, g2, g3, g4, g5, g6⟩
  · obtain rfl : ds = [] := List.eq_nil_of_length_eq_zero (by simpa using hv.1)
    refine ⟨w, ?_, ?_, Fr.refl _ w⟩
    · simp only [Builtin.copy_, List.getElem?_toArray, List.getElem?_cons_zero, List.getElem?_cons_succ, Sem.run_bind, run_underlying ht, Result.andThen_ok, Builtin.lenOf, Sem.run_pure, sizeOf, typeInfo, program, Sem.run, hi, hmin, hfc]
    · have e0 : min m 0 * i.size = 0 := by rw [Nat.min_zero, Nat.zero_mul]
      rw [e0]
      exact hv
  · have hcap : n * i.size ≤ cap * i.size := Nat.mul_le_mul_right _ g2
    have h1' : ∀ u ∈ news.take (min m n * i.size), u.oneCell' = true := fun u hu => h1 u (List.mem_of_mem_take hu)
    have hst := run_storeCells_cells (P := P) g off (news.take (min m n * i.size)) 0 w
      (fun j hj => by rw [cell_of g1, Nat.add_zero]; simp only [Array.getElem?_eq_getElem (show off + j < cur.size by omega)]; rfl)
      (fun j hj => by rw [frozen_of g1, Nat.add_zero]; exact g6 j (by omega)) h1'
    simp only [Nat.add_zero] at hst
    obtain ⟨cs', k1, k2, k3, k4⟩ := setCells_heap g (news.take (min m n * i.size)) off w cur e fz g1 (by omega)
    have hdl : (news.take (min m n * i.size) ++ ds.drop (min m n * i.size)).length = n * i.size := by
      rw [List.length_append, hlen, List.length_drop, hv.1]
      omega
    refine ⟨w.setCells g off (news.take (min m n * i.size)), ?_, ⟨hdl, .inr ⟨g, off, cap, cs', fz, rfl, k1, g2, g3, by omega, fun j hj => ?_, g6⟩⟩, (Fr.setCells g _ _ w).mono (fun j _ h => by subst h; rfl)⟩
    · simp only [Builtin.copy_, List.getElem?_toArray, List.getElem?_cons_zero, List.getElem?_cons_succ, Sem.run_bind, run_underlying ht, Result.andThen_ok, Builtin.lenOf, Sem.run_pure, sizeOf, typeInfo, program, Sem.run, hi, hmin, hfc, hst]
    · by_cases hjk : j < min m n * i.size
      · rw [k3 j (by omega), List.getElem?_append_left (by omega)]
      · rw [k4 _ (.inr (by omega)), g5 j hj, List.getElem?_append_right (by omega), hlen, List.getElem?_drop]
        congr 1
        omega

theorem op_copy {P : Program} {o : Oper} {a : Act} {w : World} {K : Act → World → Prop} {Q : Exit → Act → World → Prop} (d s : Operand) (dT sT : TypeId)
    (ho : o.op = .call { callee := .builtin .copy, args := #[d, s], argTypes := #[dT, sT] })
    (e : TypeId) (i : TypeInfo) (sz : Nat) (ht : P.underlying dT = some (.slice e)) (hi : P.info? e = some i) (hsize : i.size = sz)
    (v : Value) (n : Nat) (ds : List Value) (hdv : a.eval d = v) (hv : Sl w e sz v n ds) (x : Value) (m : Nat) (news : List Value) (hxv : a.eval s = x) (hs : Rd w sz x m news) (h1 : ∀ u ∈ news, u.oneCell' = true)
    (h : ∀ w', Sl w' e sz v n (news.take (min m n * sz) ++ ds.drop (min m n * sz)) → Fr (fun k => v.ownBlock = some k) w w' → K (a.put o.dst (goInt (min m n : Nat))) w') : Oper.wp P o a w K Q := by
  obtain ⟨w', hr, h2, h3⟩ := run_copy (P := P) w dT sT o.type e i sz ht hi hsize v n ds hv x m news hs h1
  unfold Oper.wp execOp
  simp only [ho, resolve, invoke, builtin, Sem.run_bind, Sem.run_pure, Result.andThen_ok, List.map_toArray, List.map_cons, List.map_nil, hdv, hxv, hr]
  exact h w' h2 h3

theorem wpList_op {P : Program} {ops : Array Oper} {rest : List Oper} {o : Oper} {a : Act} {w : World} {Q : Exit → Act → World → Prop} (hg : o.guard = none)
    (h : ∀ K : Act → World → Prop, (∀ a w, wpList P ops Q rest a w → K a w) → o.wp P a w K Q) : wpList P ops Q (o :: rest) a w := wpList_plain hg h

/-- 'make([]T, n)'. -/
theorem op_make {P : Program} {o : Oper} {a : Act} {w : World} {K : Act → World → Prop} {Q : Exit → Act → World → Prop} (l c : Operand) (t : TypeId) (ho : o.op = .makeSlice t l c)
    (e : TypeId) (i : TypeInfo) (z : Value) (sz bytes : Nat) (ht : P.underlying t = some (.slice e)) (hi : P.info? e = some i) (hz : i.zero = some z) (hsize : i.size = sz) (hby : i.bytes = bytes)
    (n : Nat) (L C : Int) (hl : a.eval l = .int .i64 L) (hc : a.eval c = .int .i64 C) (hL : L = (n : Int)) (hC : C = (n : Int)) (hb : bytes * n ≤ 281474976710656) (h63 : n ≤ maxLen)
    (h : ∀ w', Sl w' e sz (.slice (some ⟨w.heap.size, 0, none⟩) n n) n (madeCells z.cells (n * sz)).toList → Fr (fun _ => False) w w' → K (a.put o.dst (.slice (some ⟨w.heap.size, 0, none⟩) n n)) w') : Oper.wp P o a w K Q := by
  subst hL
  subst hC
  subst hby
  obtain ⟨w', hr, r1, r2⟩ := run_make_full (P := P) w 0 t e i z sz ht hi hz hsize .i64 .i64 n hb h63 (Nat.zero_le _)
  unfold Oper.wp execOp
  simp only [ho, hl, hc, Sem.run_bind, hr, Result.andThen_ok, Sem.run_pure]
  exact h w' (Sl.of_own r1) ((Fr.of_grown r2).mono (fun _ _ h => by cases h))

theorem Fr.fresh {S : Nat → Prop} {w w' : World} (h : Fr S w w') (hs : ∀ k, k < w.heap.size → ¬ S k) : Below w.heap.size w w' := h.below (Nat.le_refl _) hs

end Go.Cof
