/-
What comes in, as the walks need it: bytes, strings, numbers, structs, slices of them. No walk.
-/
import Derived.ProofKit
import Derived.OpenShut
import Derived.ShutString
import Derived.ChangeOld
import Derived.Deep.Slices
import Derived.Lib.SmallJoins
import Derived.Test.YtpelpmhopmefoaaShake8
namespace Go.Proofs.Ytpelpmhopmefoaa
open Go.RowKit Go.Cof Go.ChangeShapes Go.WideShapes Go.ChangeAt Go.Joins Go.Deep
set_option maxRecDepth 100000
set_option linter.unusedSimpArgs false

theorem spot_of_cell {w : World} {a : Addr} {v : Value} (h : w.cell? a = some v) : a.spot = none ∧ a.block < w.heap.size := by
  refine ⟨?_, World.block_lt_of_cell? w a h⟩
  unfold World.cell? at h
  split at h
  · split at h
    · cases h
    · rename_i hs
      cases hsp : a.spot with
      | none => rfl
      | some x => rw [hsp] at hs; simp at hs
  · cases h

/-- Bytes that came in somewhere deep: as they read; or none at all, wherever they point. -/
def BW (w : World) (v : Value) (l : List UInt8) : Prop := BV w v l ∨ (l = [] ∧ ∃ a, v = .slice a 0 0)

theorem BW.form {w : World} {v : Value} {l : List UInt8} (h : BW w v l) : ∃ a c, v = .slice a l.length c := by
  rcases h with h | ⟨rfl, a, rfl⟩
  · exact h.form
  · exact ⟨a, 0, rfl⟩
theorem BW.keep0 {w w' : World} {v : Value} {l : List UInt8} (h : BW w v l) (hf : Fr (fun _ => False) w w') : BW w' v l := by
  rcases h with h | h
  · exact .inl (Rd.keep h hf (fun _ _ => id))
  · exact .inr h
theorem BW.src {w : World} {v : Value} {l : List UInt8} (h : BW w v l) : Src Try.prog 1 24 v l.length (bv l) w := by
  rcases h with h | ⟨rfl, a, rfl⟩
  · exact Rd.src h Try.underlying24 (bv_one l)
  · cases a with
    | none => exact Src.ofNil w Try.underlying24 0
    | some b => exact Src.ofSlice w Try.underlying24 b 0 0 [] rfl (fun j u hu => by simp at hu) (by simp)

section
variable {H : Type} {enc : TypeId × Value → H} {w : World} {held : Bool}

theorem trod_bytes {t e : TypeId} (ht : Try.prog.underlying t = some (.slice e)) (he : Try.prog.underlying e = some (.int .u8)) (hc : Try.prog.cellsOf e = 1) {fuel : Nat} {cs : List Value} {x : DataW H × List MemPlace}
    (h : DataW.trod enc Try.prog w 0 (fun _ => true) held fuel t cs = some x) : ∃ l a c, cs = [.slice a (List.length l) c] ∧ l.length ≤ maxLen ∧ BW w (.slice a (List.length l) c) l ∧ (0 < c ∨ a = none ∨ l = []) ∧ (a = none ∨ c = 0 ∨ BV w (.slice a (List.length l) c) l) := by
  rcases open_ints ht he hc h with ⟨hcs, _⟩ | ⟨a, len, cap, zs, hcs, _, hl, hm, hz, _, hcell, hwz⟩
  · exact ⟨[], none, 0, hcs, by simp, .inl (Rd.nil w 1), .inr (.inl rfl), .inl rfl⟩
  · simp only [if_true] at hz
    have hb : 0 < cap → BV w (.slice (some a) len cap) ((zs.take len).map fun z => UInt8.ofNat z.toNat) := by
      intro hpos
      have h0 := spot_of_cell (hcell 0 (by omega))
      have hsp : a.spot = none ∧ a.block < w.heap.size := by simpa [Addr.add] using h0
      refine ⟨some a, cap, by simp [hz, Nat.min_eq_left hl], ?_, by simp [bv_length], (fun e => by cases e), fun b hb => ?_⟩
      · simp [hz, Nat.min_eq_left hl, hl]
      · cases hb
        refine ⟨hsp.1, hsp.2, fun j u hu => ?_⟩
        have hj : j < len := by
          have := (List.getElem?_eq_some_iff.1 hu).1
          simp [bv, hz] at this
          omega
        have h1 := hcell j (by omega)
        rw [add_plain a hsp.1] at h1
        rw [h1]
        have hzj : j < zs.length := by omega
        have hwf := hwz (zs.getD j 0) (by rw [List.getD_eq_getElem?_getD, List.getElem?_eq_getElem hzj]; exact List.getElem_mem hzj)
        have hr : 0 ≤ zs.getD j 0 ∧ zs.getD j 0 ≤ 255 := by
          have := bounds_u8 hwf
          omega
        rw [← hu]
        simp only [bv, List.map_map, List.getElem?_map, List.getElem?_take_of_lt hj, List.getElem?_eq_getElem hzj, Option.map_some, Function.comp]
        rw [List.getD_eq_getElem?_getD, List.getElem?_eq_getElem hzj] at hr ⊢
        simp only [Option.getD_some] at hr ⊢
        congr 2
        rw [UInt8.toNat_ofNat']
        omega
    have hlen : ((zs.take len).map fun z => UInt8.ofNat z.toNat).length = len := by simp [hz, Nat.min_eq_left hl]
    refine ⟨(zs.take len).map fun z => UInt8.ofNat z.toNat, some a, cap, by rw [hlen]; exact hcs, by rw [hlen]; omega, ?_, ?_, ?_⟩
    · by_cases hpos : 0 < cap
      · rw [hlen]
        exact .inl (hb hpos)
      · have e0 : cap = 0 := by omega
        have e1 : len = 0 := by omega
        subst e0
        subst e1
        exact .inr ⟨by simp, some a, by rw [hlen]⟩
    · by_cases hpos : 0 < cap
      · exact .inl hpos
      · have e1 : len = 0 := by omega
        subst e1
        exact .inr (.inr (by simp))
    · by_cases hpos : 0 < cap
      · rw [hlen]
        exact .inr (.inr (hb hpos))
      · exact .inr (.inl (by omega))

theorem came_bytes {base : Nat} {t e : TypeId} {v : Value} {d : DataW H} {p : List MemPlace} (ht : Try.prog.underlying t = some (.slice e)) (he : Try.prog.underlying e = some (.int .u8)) (hc : Try.prog.cellsOf e = 1)
    (hv : Value.okWide Try.prog w .any base t v) (h : DataW.Trod enc Try.prog w 0 (fun _ => true) held t v d p) : ∃ l, BV w v l ∧ l.length ≤ maxLen := by
  obtain ⟨a, n, c, rfl⟩ := okWide_slice ht hv
  obtain ⟨fuel, hf⟩ := h
  obtain ⟨l, a', c', hcs, hlen, hbw, _, h3⟩ := trod_bytes ht he hc hf
  simp only [Value.cells, List.cons.injEq, Value.slice.injEq, and_true] at hcs
  obtain ⟨rfl, rfl, rfl⟩ := hcs
  refine ⟨l, ?_, hlen⟩
  rcases h3 with rfl | rfl | h3
  · rcases hbw with h | ⟨rfl, a, e⟩
    · exact h
    · cases e
      exact Rd.nil w 1
  · rcases hbw with h | ⟨rfl, a', e⟩
    · exact h
    · cases a with
      | none => exact Rd.nil w 1
      | some b =>
        simp only [Value.okWide, ht, Cell.okWide, Cell.ok, World.has] at hv
        obtain ⟨_, _, _, hsp, row, cells, hsh, _⟩ := hv
        refine ⟨_, _, rfl, Nat.le_refl _, by simp [bv], (fun e => by cases e), fun x hx => ?_⟩
        cases hx
        refine ⟨hsp, ?_, fun j u hu => by simp [bv] at hu⟩
        unfold World.shape? at hsh
        split at hsh
        · rename_i hh
          exact lt_of_heap hh
        · cases hsh
  · exact h3

theorem strB_of (s : ByteArray) : s = strB s.data.toList := by
  apply ByteArray.ext
  simp [strB]

theorem Try.cells23 : Try.prog.cellsOf 23 = 3 := by kernel_rfl
theorem came_export {base : Nat} {v : Value} {d : DataW H} {p : List MemPlace} (hv : Value.okWide Try.prog w .any base 23 v) (h : DataW.Trod enc Try.prog w 0 (fun _ => true) held 23 v d p) :
    ∃ n z r, v = .agg #[.string (strB n), .int .i64 z, .bool r] ∧ -9223372036854775808 ≤ z ∧ z ≤ 9223372036854775807 ∧ n.length ≤ 9223372036854775807 := by
  obtain ⟨c0, c1, c2, y0, y1, y2, m, rfl, rfl, rfl, h0, h1, h2⟩ := open_agg3 Try.underlying23 (by kernel_rfl) Try.cells23 hv h
  obtain ⟨s, e0, _, hs⟩ := DataW.trod_string Try.underlying9 h0
  obtain ⟨z, e1, _, hz⟩ := DataW.trod_int Try.underlying3 h1
  obtain ⟨r, e2, _⟩ := DataW.trod_bool Try.underlying4 h2
  simp only [List.cons.injEq, and_true] at e0 e1 e2
  subst e0 e1 e2
  have hb := bounds_i64 hz
  have h64 : s.size ≤ 9223372036854775807 := hs
  exact ⟨s.data.toList, z, r, by rw [← strB_of], by omega, by omega, h64⟩
end

end Go.Proofs.Ytpelpmhopmefoaa
