/-
Walks of package device: what a loss of power leaves.
-/
import Derived.Laws.Externs
import Derived.MapKept
import Derived.Test.YtbakgaogehofbaaDev2
namespace Go.Proofs.Ytbakgaogehofbaa
open Go.RowKit Go.Cof
set_option maxRecDepth 100000
set_option linter.unusedSimpArgs false

theorem _root_.Go.Cof.MapL.cloned {w : World} {r : Nat} {es : List (Int × Value)} (h : MapL w r es) : ∃ en cl, w.heap[r]? = some (.map en cl) ∧ MapL (w.alloc (.map en cl)) w.heap.size es := by
  obtain ⟨h1, en, cl, h2, h3⟩ := h
  exact ⟨en, cl, h2, h1, en, cl, heap_new w _, h3⟩

theorem assert_map {P : Program} (w : World) (t xT k e : TypeId) (v : Value) (h : P.underlying t = some (.map k e)) : (Instr.typeAssert (.iface t v) xT t false).run P w = .ok v w := by
  simp [Instr.typeAssert, run_underlying h, go_sem, Result.andThen]
theorem clone_map {P : Program} (w : World) {r : Nat} {es : Array MapEntry} {clock : Nat} (t : TypeId) (hb : w.heap[r]? = some (.map es clock)) :
    (Extern.MapsClone.clone #[.iface t (.map (some r))]).run P w = .ok (.iface t (.map (some w.heap.size))) (w.alloc (.map es clock)) := by
  have e : Extern.MapsClone.clone #[.iface t (.map (some r))] = (getObj r >>= fun o => match o with
      | .map entries clock => (newObj (.map entries clock) >>= fun n => pure (.iface t (.map (some n))))
      | _ => stuck "maps.clone: a map expected") := rfl
  rw [e]
  simp [MapKept.run_getObj_map hb, Result.andThen, go_sem]

def MapCloned (w : World) (es : List (Int × Value)) (e : Ending) (w' : World) : Prop :=
  e = .returned (.map (some w.heap.size)) ∧ MapL w' w.heap.size es ∧ Below w.heap.size w w'

theorem mapsClone73 (r : Nat) (es : List (Int × Value)) (w : World) (h : MapL w r es) : Calls Try.prog 73 #[.map (some r)] w (MapCloned w es) := by
  obtain ⟨en, cl, h1, h2⟩ := h.cloned
  have hq := fun w => run_eql_map_nil (P := Try.prog) w 83 _ _ (some r) Try.underlying83
  go_enter Try.func73, Try.ntmps73
  go_wp2
  rw [run_callFunc_extern Try.func77 (by kernel_rfl) (by kernel_rfl) (by kernel_rfl) (e := Extern.MapsClone.clone) (by kernel_rfl), clone_map w 83 h1]
  simp only [Result.andThen]
  rw [Oper.upon_value]
  go_wp2
  rw [assert_map _ 83 20 _ _ _ Try.underlying83]
  simp only [Result.andThen]
  rw [Oper.upon_value]
  go_wp2
  go_returns
  exact ⟨rfl, h2, (Below.refl _ _).alloc (Nat.le_refl _) _⟩

theorem mapsClone74 (r : Nat) (es : List (Int × Value)) (w : World) (h : MapL w r es) : Calls Try.prog 74 #[.map (some r)] w (MapCloned w es) := by
  obtain ⟨en, cl, h1, h2⟩ := h.cloned
  have hq := fun w => run_eql_map_nil (P := Try.prog) w 84 _ _ (some r) Try.underlying84
  go_enter Try.func74, Try.ntmps74
  go_wp2
  rw [run_callFunc_extern Try.func77 (by kernel_rfl) (by kernel_rfl) (by kernel_rfl) (e := Extern.MapsClone.clone) (by kernel_rfl), clone_map w 84 h1]
  simp only [Result.andThen]
  rw [Oper.upon_value]
  go_wp2
  rw [assert_map _ 84 20 _ _ _ Try.underlying84]
  simp only [Result.andThen]
  rw [Oper.upon_value]
  go_wp2
  go_returns
  exact ⟨rfl, h2, (Below.refl _ _).alloc (Nat.le_refl _) _⟩

/-! ### safe, Pending, Cut.. of no device -/
theorem pending_nil (w : World) : Calls Try.prog 26 #[.pointer none] w fun e w' => e = .returned (.int .i64 0) ∧ w = w' := by
  go_enter Try.func26, Try.ntmps26
  go_wp2
  go_returns
  exact ⟨rfl, rfl⟩
theorem cut_nil (v : Value) (w : World) : Calls Try.prog 28 #[.pointer none, v] w fun e w' => e = .returned (.pointer none) ∧ w = w' := by
  go_enter Try.func28, Try.ntmps28
  go_wp2
  go_returns
  exact ⟨rfl, rfl⟩
theorem cutAt_nil (n : Int) (v : Value) (w : World) : Calls Try.prog 29 #[.pointer none, .int .i64 n, v] w fun e w' => e = .returned (.pointer none) ∧ w = w' := by
  go_enter Try.func29, Try.ntmps29
  go_wp2
  go_returns
  exact ⟨rfl, rfl⟩
theorem cutMoment_nil (n : Int) (v : Value) (w : World) : Calls Try.prog 31 #[.pointer none, .int .i64 n, v] w fun e w' => e = .returned (.pointer none) ∧ w = w' := by
  go_enter Try.func31, Try.ntmps31
  go_wp2
  go_returns
  exact ⟨rfl, rfl⟩

end Go.Proofs.Ytbakgaogehofbaa
