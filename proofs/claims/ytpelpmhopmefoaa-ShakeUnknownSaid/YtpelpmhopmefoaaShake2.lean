/-
Walks of package shake: the handshake's struct, the export.
-/
import Derived.Test.YtpelpmhopmefoaaShake1
namespace Go.Proofs.Ytpelpmhopmefoaa
open Go.RowKit Go.Cof
set_option maxRecDepth 100000
set_option linter.unusedSimpArgs false

/-- A handshake. -/
structure Sh where
  name : List UInt8
  sectors : Nat
  ro : Bool
  phase : Nat
  st : Bool
  bare : Bool

def Sh.cells (S : Sh) : Array Value := #[.string (strB S.name), .int .i64 S.sectors, .bool S.ro, .int .i64 S.phase, .bool S.st, .bool S.bare]
def ShAt (w : World) (h : Nat) (S : Sh) : Prop := w.heap[h]? = some (.cells S.cells 99 (0, 0))

theorem ShAt.keep {w w' : World} {h : Nat} {S : Sh} {K : Nat → Prop} (hs : ShAt w h S) (hf : Fr K w w') (hn : ¬ K h) : ShAt w' h S := hf.heap hs hn
theorem ShAt.c0 {w : World} {h : Nat} {S : Sh} (hs : ShAt w h S) : w.cell? ⟨h, 0, none⟩ = some (.string (strB S.name)) := cell_of hs
theorem ShAt.c1 {w : World} {h : Nat} {S : Sh} (hs : ShAt w h S) : w.cell? ⟨h, 1, none⟩ = some (.int .i64 S.sectors) := cell_of hs
theorem ShAt.c2 {w : World} {h : Nat} {S : Sh} (hs : ShAt w h S) : w.cell? ⟨h, 2, none⟩ = some (.bool S.ro) := cell_of hs
theorem ShAt.c3 {w : World} {h : Nat} {S : Sh} (hs : ShAt w h S) : w.cell? ⟨h, 3, none⟩ = some (.int .i64 S.phase) := cell_of hs
theorem ShAt.c4 {w : World} {h : Nat} {S : Sh} (hs : ShAt w h S) : w.cell? ⟨h, 4, none⟩ = some (.bool S.st) := cell_of hs
theorem ShAt.c5 {w : World} {h : Nat} {S : Sh} (hs : ShAt w h S) : w.cell? ⟨h, 5, none⟩ = some (.bool S.bare) := cell_of hs
theorem ShAt.z {w : World} {h : Nat} {S : Sh} (hs : ShAt w h S) (o : Nat) : w.frozen? ⟨h, o, none⟩ = false := frozen_in hs o

def Sh.flags (S : Sh) : Nat := if S.ro then 367 else 365
def Sh.exportB (S : Sh) : List UInt8 := numB [(S.sectors * 64, 8), (S.flags, 2)]

theorem export_any (h : Nat) (S : Sh) (w : World) (hs : ShAt w h S) (hz : (S.sectors : Int) ≤ 1000000) : Calls Try.prog 89 #[.pointer (some ⟨h, 0, none⟩)] w (Makes S.exportB w) := by
  have c1 := hs.c1
  have c2 := hs.c2
  clear hs
  have HO : ∀ f, (f = 365 ∨ f = 367) → Hid (∀ x ∈ [(S.sectors * 64, 8), (f, 2)], x.1 < 256 ^ x.2 ∧ 1 ≤ x.2 ∧ x.2 ≤ 8 ∧ (x.1 : Int) ≤ 9223372036854775807) := fun f hf => Lib.hid (by
    intro x hx
    simp only [List.mem_cons, List.not_mem_nil, or_false] at hx
    rcases hx with rfl | rfl <;> simp only <;> omega)
  cases hr : S.ro
  · have H1 := HO 365 (.inl rfl)
    have E : Hid (S.exportB = numB [(S.sectors * 64, 8), (365, 2)]) := Lib.hid (by simp [Sh.exportB, Sh.flags, hr])
    rw [hr] at c2
    clear HO hr
    go_enter Try.func89, Try.ntmps89
    go_wp2_with (go_at_call 91; go_loud (refine (numbers_any _ [(S.sectors * 64, 8), (365, 2)] _ (Rd.block (heap_new w _) rfl) (by simp) (by simp) H1.out).mono ?_; rintro e w' ⟨v', rfl, hF⟩))
    go_returns
    rw [E.out]
    exact Makes.of hF ((Fr.refl _ w).alloc _)
  · have H1 := HO 367 (.inr rfl)
    have E : Hid (S.exportB = numB [(S.sectors * 64, 8), (367, 2)]) := Lib.hid (by simp [Sh.exportB, Sh.flags, hr])
    rw [hr] at c2
    clear HO hr
    have hb : bits .or .i64 365 2 = 367 := by decide
    go_enter Try.func89, Try.ntmps89
    go_wp2_with (go_at_call 91; go_loud (refine (numbers_any _ [(S.sectors * 64, 8), (367, 2)] _ (Rd.block (heap_new w _) rfl) (by simp) (by simp) H1.out).mono ?_; rintro e w' ⟨v', rfl, hF⟩))
    go_returns
    rw [E.out]
    exact Makes.of hF ((Fr.refl _ w).alloc _)

end Go.Proofs.Ytpelpmhopmefoaa
