/-
More words that all walks use: stores into a slice's cells.
-/
import Derived.Test.YtpelpmhopmefoaaMaps
namespace Go.Cof
open Go.RowKit
set_option linter.unusedSimpArgs false

theorem Sl.cellAt {w : World} {e : TypeId} {n c g o : Nat} {xs : List Value} (h : Sl w e 1 (.slice (some ⟨g, o, none⟩) n c) n xs) {k : Nat} {u : Value} (hu : xs[k]? = some u) : w.cell? ⟨g, o + k, none⟩ = some u := by
  obtain ⟨h1, h2 | ⟨g', off, cap, cur, fz, e1, h4, h5, h6, h7, h8, h9⟩⟩ := h
  · cases h2.1
  · cases e1
    have hk : k < xs.length := (List.getElem?_eq_some_iff.1 hu).1
    rw [cell_of h4, h8 k (by omega), hu]
theorem Sl.frozenAt {w : World} {e : TypeId} {n c g o : Nat} {xs : List Value} (h : Sl w e 1 (.slice (some ⟨g, o, none⟩) n c) n xs) {k : Nat} (hk : k < n) : w.frozen? ⟨g, o + k, none⟩ = false := by
  obtain ⟨h1, h2 | ⟨g', off, cap, cur, fz, e1, h4, h5, h6, h7, h8, h9⟩⟩ := h
  · cases h2.1
  · cases e1
    rw [frozen_of h4]
    exact h9 k (by omega)
theorem Sl.setAt {w : World} {e : TypeId} {n c g o : Nat} {xs : List Value} (h : Sl w e 1 (.slice (some ⟨g, o, none⟩) n c) n xs) {k : Nat} (hk : k < n) (u : Value) :
    Sl (w.setCell ⟨g, o + k, none⟩ u) e 1 (.slice (some ⟨g, o, none⟩) n c) n (xs.set k u) := by
  obtain ⟨h1, h2 | ⟨g', off, cap, cur, fz, e1, h4, h5, h6, h7, h8, h9⟩⟩ := h
  · cases h2.1
  · cases e1
    refine ⟨by simpa using h1, .inr ⟨g, o, c, cur.setIfInBounds (o + k) u, fz, rfl, heap_set u h4, h5, h6, by simpa using h7, fun j hj => ?_, h9⟩⟩
    rw [Array.getElem?_setIfInBounds, List.getElem?_set]
    by_cases hjk : k = j
    · subst hjk
      have : o + k < cur.size := by omega
      have : k < xs.length := by omega
      simp [*]
    · rw [if_neg (by omega), if_neg hjk, h8 j hj]

theorem Fr.of_below0 {w w' : World} (h : Below w.heap.size w w') : Fr (fun _ => False) w w' := ⟨h.os, h.tape, h.output, h.size, fun k hk _ => h.block k hk⟩
theorem Fr.below0 {w w' : World} (h : Fr (fun _ => False) w w') : Below w.heap.size w w' := h.fresh (fun _ _ => id)
theorem Fr.set1 (w : World) (b o : Nat) (u : Value) : Fr (fun k => k = b) w (w.setCell ⟨b, o, none⟩ u) := (Fr.refl (fun k => k = b) w).setB rfl o u

end Go.Cof
