/-
'append(s, make([]T, n)...)': a law that the kit lacks.
-/
import Derived.Test.YtpelpmhopmefoaaMore
namespace Go.Cof
open Go.RowKit
set_option linter.unusedSimpArgs false

theorem run_zeros_room {P : Program} (w : World) (t tx ty e : TypeId) (i : TypeInfo) (z : Value) (ht : P.underlying t = some (.slice e)) (hk : P.underlying tx = some (.int .i64)) (hi : P.info? e = some i) (hz : i.zero = some z) (b off sLen sCap n : Nat) (hn0 : n * i.size ≠ 0) (hn : (n : Int) ≤ 9223372036854775807)
    (hb : ¬ (281474976710656 : Int) < (n : Int) * i.bytes) (hroom : sLen + n ≤ sCap) (news : List Value) (hnews : Builtin.zeroCells z.cells n = news.toArray) (one : ∀ u ∈ news, u.oneCell' = true)
    (hc : ∀ j, j < news.length → (w.cell? ⟨b, off + sLen * i.size + j, none⟩).isSome = true) (hf : ∀ j, j < news.length → w.frozen? ⟨b, off + sLen * i.size + j, none⟩ = false) :
    (Builtin.append_ #[t, tx] ty #[.slice (some ⟨b, off, none⟩) sLen sCap, .int .i64 n]).run P w = .ok (.slice (some ⟨b, off, none⟩) (sLen + n) sCap) (w.setCells b (off + sLen * i.size) news) := by
  have hst := run_storeCells_cells (P := P) b (off + sLen * i.size) news 0 w (by simpa using hc) (by simpa using hf) one
  simp only [Nat.add_zero] at hst
  have hw : IntKind.i64.wrap (n : Int) = n := IntWalk.i64_in _ (by omega)
  simp [Builtin.append_, run_underlying ht, run_underlying hk, sizeOf, typeInfo, zeroValue, hi, hz, hw, hb, hn0, hroom, hnews, Addr.add_lit, hst, asInt, asIntOf]
  intro h
  omega

theorem run_zeros_grow {P : Program} (w : World) (t tx ty e : TypeId) (i : TypeInfo) (z : Value) (ht : P.underlying t = some (.slice e)) (hk : P.underlying tx = some (.int .i64)) (hi : P.info? e = some i) (hz : i.zero = some z) (base : Option Addr) (sLen sCap n : Nat) (olds : List Value)
    (hold : (Builtin.firstCells i.size sLen (.slice base sLen sCap)).run P w.drew = .ok olds.toArray w.drew) (hn0 : n * i.size ≠ 0) (news : List Value) (hnews : Builtin.zeroCells z.cells n = news.toArray)
    (hb : ¬ (281474976710656 : Int) < (n : Int) * i.bytes) (hg : sCap < sLen + n) (h63 : ((sLen + n : Nat) : Int) ≤ 9223372036854775807) (hfit : Builtin.nextslicecap (sLen + n) sCap * i.bytes ≤ 281474976710656) :
    (Builtin.append_ #[t, tx] ty #[.slice base sLen sCap, .int .i64 n]).run P w =
      .ok (.slice (some ⟨w.heap.size, 0, none⟩) (sLen + n) (grownCap w (sLen + n) sCap e))
        (w.drew.alloc (.cells ((olds ++ news).toArray ++ Builtin.zeroCells z.cells (grownCap w (sLen + n) sCap e - (sLen + n))) e)) := by
  have hn : ¬ (sLen + n ≤ sCap) := by omega
  have h63' : ¬ (9223372036854775807 < ((sLen : Int) + (n : Int))) := by omega
  have h48' : ¬ (281474976710656 < Builtin.nextslicecap (sLen + n) sCap * i.bytes) := by omega
  have hw : IntKind.i64.wrap (n : Int) = n := IntWalk.i64_in _ (by omega)
  have hneg : ¬ ((n : Int) < 0) := by omega
  simp [Builtin.append_, run_underlying ht, run_underlying hk, sizeOf, typeInfo, zeroValue, hi, hz, hw, hb, hn0, hn, h63', h48', hneg, Question.forced, hnews, hold, newRow, grownCap, asInt, asIntOf]
  rw [← Array.append_assoc, show olds.toArray ++ news.toArray = (olds ++ news).toArray by simp]

theorem zeroCells_one' (z : Value) (m : Nat) : Builtin.zeroCells #[z] m = (List.replicate m z).toArray := by
  unfold Builtin.zeroCells
  apply Array.ext'
  simp
  induction m with
  | zero => simp
  | succ m ih => rw [List.range_succ, List.map_append, ih, List.replicate_succ']; simp [Nat.mod_one]

/-- 'append(s, make([]byte, n)...)': elements of one cell. -/
theorem op_appz {P : Program} {o : Oper} {a : Act} {w : World} {K : Act → World → Prop} {Q : Exit → Act → World → Prop} (s x : Operand) (t tx : TypeId)
    (ho : o.op = .call { callee := .builtin .append, args := #[s, x], argTypes := #[t, tx] })
    (e : TypeId) (i : TypeInfo) (z : Value) (bytes : Nat) (ht : P.underlying t = some (.slice e)) (hk : P.underlying tx = some (.int .i64)) (hi : P.info? e = some i) (hz : i.zero = some z)
    (hsize : i.size = 1) (hby : i.bytes = bytes) (hzs : z.cells = #[z])
    (v : Value) (n : Nat) (xs : List Value) (hsv : a.eval s = v) (hv : Sl w e 1 v n xs) (m : Nat) (M : Int) (hM : M = (m : Int)) (hxv : a.eval x = .int .i64 M) (hm : 0 < m) (one : z.oneCell' = true)
    (h63 : n + m ≤ maxLen) (hbytes : (n + m) * bytes ≤ 140737488355328)
    (h : ∀ v' w', Appended w w' e 1 v v' (n + m) (xs ++ List.replicate m z) → K (a.put o.dst v') w') : Oper.wp P o a w K Q := by
  subst hM
  subst hby
  have hlen : (xs ++ List.replicate m z).length = (n + m) * 1 := by rw [List.length_append, hv.1, List.length_replicate]; omega
  have hnews : Builtin.zeroCells z.cells m = (List.replicate m z).toArray := by
    rw [hzs]
    exact zeroCells_one' z m
  have hsmall : n + m ≤ 9223372036854775807 := by simp only [maxLen] at h63; omega
  have hmb : m * i.bytes ≤ (n + m) * i.bytes := Nat.mul_le_mul_right _ (by omega)
  have hb : ¬ (281474976710656 : Int) < (m : Int) * i.bytes := by
    have : ((m * i.bytes : Nat) : Int) ≤ 140737488355328 := by omega
    push_cast at this
    omega
  have grown : ∀ (base : Option Addr) (cap : Nat), v = .slice base n cap → cap < n + m → ∃ v' w', (Builtin.append_ #[t, tx] o.type #[v, .int .i64 m]).run P w = .ok v' w' ∧ Appended w w' e 1 v v' (n + m) (xs ++ List.replicate m z) := by
    intro base cap hvb hg
    subst hvb
    have hf := firstCells_rd (P := P) hv.rd.drew
    rw [← hsize] at hf
    have hr := run_zeros_grow (P := P) w t tx o.type e i z ht hk hi hz base n cap m xs hf (by rw [hsize]; omega) (List.replicate m z) hnews hb hg (by omega) (growslice_fits hg hbytes)
    have hge := grownCap_ge w (n + m) cap e
    have hcm : grownCap w (n + m) cap e ≤ maxLen := grownCap_le_maxLen w (n + m) cap e h63
    refine ⟨_, _, hr, ⟨hlen, .inr ⟨w.heap.size, 0, _, _, (0, 0), rfl, heap_alloc_new w.drew _, hge, hcm, ?_, ?_, fun j _ => by simp⟩⟩, (Fr.drew (Fr.refl _ w)).alloc _, fun g h => ?_, ⟨fun h => by simp at h, fun h => by omega⟩⟩
    · have hzz : z.cells.size = 1 := by rw [hzs]; rfl
      simp only [Array.size_append, List.size_toArray, size_zeroCells, hzz, hlen, ← Nat.add_mul]
      omega
    · intro j hj
      rw [Nat.zero_add, Array.getElem?_append_left (by simpa [hlen] using hj)]
      simp
    · cases h; exact .inr (Nat.le_refl _)
  have key : ∃ v' w', (Builtin.append_ #[t, tx] o.type #[v, .int .i64 m]).run P w = .ok v' w' ∧ Appended w w' e 1 v v' (n + m) (xs ++ List.replicate m z) := by
    rcases hv.2 with ⟨rfl, rfl⟩ | ⟨g, off, cap, cur, fz, rfl, h1, h2, h3, h4, h5, h6⟩
    · exact grown none 0 rfl (by omega)
    · by_cases hroom : n + m ≤ cap
      · have hr := run_zeros_room (P := P) w t tx o.type e i z ht hk hi hz g off n cap m (by rw [hsize]; omega) (by omega) hb hroom (List.replicate m z) hnews (fun u hu => by rw [List.eq_of_mem_replicate hu]; exact one)
          (fun j hj => by rw [List.length_replicate] at hj; rw [cell_of h1, hsize]; simp only [Array.getElem?_eq_getElem (show off + n * 1 + j < cur.size by omega)]; rfl)
          (fun j hj => by rw [List.length_replicate] at hj; rw [frozen_of h1, hsize, Nat.add_assoc]; exact h6 _ (by omega))
        rw [hsize] at hr
        obtain ⟨cs', k1, k2, k3, k4⟩ := setCells_heap g (List.replicate m z) (off + n * 1) w cur e fz h1 (by rw [List.length_replicate]; omega)
        refine ⟨_, _, hr, ⟨hlen, .inr ⟨g, off, cap, cs', fz, rfl, k1, hroom, h3, by omega, fun j hj => ?_, h6⟩⟩, ?_, fun g' h => .inl h, by simp⟩
        · have hx := hv.1
          by_cases hjn : j < n * 1
          · rw [k4 _ (.inl (by omega)), h5 j hjn, List.getElem?_append_left (by rw [hv.1]; exact hjn)]
          · rw [List.getElem?_append_right (by rw [hv.1]; omega), hv.1, show off + j = off + n * 1 + (j - n * 1) by omega, k3 _ (by rw [List.length_replicate]; omega)]
        · exact (Fr.setCells g _ _ w).mono (fun j _ h => by subst h; rfl)
      · exact grown _ cap rfl (by omega)
  obtain ⟨v', w', hr, h2⟩ := key
  unfold Oper.wp execOp
  simp only [ho, resolve, invoke, builtin, Sem.run_bind, Sem.run_pure, Result.andThen_ok, List.map_toArray, List.map_cons, List.map_nil, hsv, hxv, hr]
  exact h v' w' h2

end Go.Cof
