/-
What comes in: slices of numbers. No walk.
-/
import Derived.Test.YtpelpmhopmefoaaCame0
namespace Go.Proofs.Ytpelpmhopmefoaa
open Go.RowKit Go.Cof Go.ChangeShapes Go.WideShapes Go.ChangeAt Go.Joins Go.Deep
set_option maxRecDepth 100000
set_option linter.unusedSimpArgs false

/-- v reads as these numbers of a kind. -/
def ZV (w : World) (k : IntKind) (v : Value) (l : List Int) : Prop := Rd w 1 v l.length (l.map (Value.int k))
theorem ZV.form {w : World} {k : IntKind} {v : Value} {l : List Int} (h : ZV w k v l) : ∃ a c, v = .slice a l.length c := by
  obtain ⟨a, c, rfl, _⟩ := h
  exact ⟨a, c, rfl⟩
theorem ZV.cases {w : World} {k : IntKind} {v : Value} {l : List Int} (h : ZV w k v l) :
    (v = .slice none 0 0 ∧ l = []) ∨ ∃ g o c, v = .slice (some ⟨g, o, none⟩) l.length c ∧ l.length ≤ c ∧ g < w.heap.size ∧ ∀ j, j < l.length → w.cell? ⟨g, o + j, none⟩ = some (.int k (l.getD j 0)) := by
  obtain ⟨a, c, rfl, h1, h2, h3, h4⟩ := h
  cases a with
  | none =>
    obtain ⟨e1, rfl⟩ := h3 rfl
    exact .inl ⟨by rw [e1], List.eq_nil_of_length_eq_zero e1⟩
  | some b =>
    obtain ⟨p1, p2, p3⟩ := h4 b rfl
    obtain ⟨g, o, s⟩ := b
    simp only at p1 p2 p3
    subst p1
    exact .inr ⟨g, o, c, rfl, h1, p2, fun j hj => p3 j _ (by simp [List.getD_eq_getElem?_getD, hj])⟩

section
variable {H : Type} {enc : TypeId × Value → H} {w : World} {held : Bool}
theorem came_ints {base : Nat} {t e : TypeId} {k : IntKind} {v : Value} {d : DataW H} {p : List MemPlace} (ht : Try.prog.underlying t = some (.slice e)) (he : Try.prog.underlying e = some (.int k)) (hc : Try.prog.cellsOf e = 1)
    (hv : Value.okWide Try.prog w .any base t v) (h : DataW.Trod enc Try.prog w 0 (fun _ => true) held t v d p) : ∃ l, ZV w k v l ∧ l.length ≤ maxLen ∧ ∀ z ∈ l, (Lit.int k z).wf = true := by
  obtain ⟨a, n, c, rfl⟩ := okWide_slice ht hv
  obtain ⟨fuel, hf⟩ := h
  rcases open_ints ht he hc hf with ⟨hcs, _⟩ | ⟨a', len, cap, zs, hcs, _, hl, hm, hz, _, hcell, hwz⟩
  · simp only [Value.cells, List.cons.injEq, Value.slice.injEq, and_true] at hcs
    obtain ⟨rfl, rfl, rfl⟩ := hcs
    exact ⟨[], Rd.nil w 1, by simp, by simp⟩
  · simp only [Value.cells, List.cons.injEq, Value.slice.injEq, and_true] at hcs
    obtain ⟨rfl, rfl, rfl⟩ := hcs
    simp only [if_true] at hz
    have hlen : (zs.take n).length = n := by simp [hz, Nat.min_eq_left hl]
    have hsp : a'.spot = none ∧ a'.block < w.heap.size := by
      simp only [Value.okWide, ht, Cell.okWide, Cell.ok, World.has] at hv
      obtain ⟨_, _, _, hsp, row, cells, hsh, _⟩ := hv
      refine ⟨hsp, ?_⟩
      unfold World.shape? at hsh
      split at hsh
      · rename_i hh
        exact lt_of_heap hh
      · cases hsh
    refine ⟨zs.take n, ⟨some a', c, by rw [hlen], by rw [hlen]; exact hl, by simp, (fun e => by cases e), fun b hb => ?_⟩, by rw [hlen]; omega, fun z hz' => hwz z (List.mem_of_mem_take hz')⟩
    cases hb
    refine ⟨hsp.1, hsp.2, fun j u hu => ?_⟩
    have hj : j < n := by
      have := (List.getElem?_eq_some_iff.1 hu).1
      simp [hz] at this
      omega
    have h1 := hcell j (by omega)
    rw [add_plain a' hsp.1] at h1
    rw [h1, ← hu]
    have hzj : j < zs.length := by omega
    simp only [List.getElem?_map, List.getElem?_take_of_lt hj, List.getElem?_eq_getElem hzj, Option.map_some]
    rw [List.getD_eq_getElem?_getD, List.getElem?_eq_getElem hzj]
    rfl
end
end Go.Proofs.Ytpelpmhopmefoaa
