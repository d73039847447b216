/-
Walks of package device: all but 'left'.
-/
import Derived.Test.YtbakgaogehofbaaDev0
namespace Go.Proofs.Ytbakgaogehofbaa
open Go.RowKit Go.Cof
set_option maxRecDepth 100000
set_option linter.unusedSimpArgs false

theorem Try.info92 : (Try.prog.info? 92).map (fun i => (i.zero, i.size, i.bytes)) = some (some (.agg #[.int .i64 0, .int .i64 0]), 2, 16) := by kernel_rfl
theorem zero4 (w : World) : (zeroValue 4).run Try.prog w = .ok (.bool false) w := by kernel_rfl
theorem zero28 (w : World) : (zeroValue 28).run Try.prog w = .ok (.slice none 0 0) w := by kernel_rfl

section
variable {w : World} {R : Raw}
theorem RawAt.c0 (h : RawAt w R) : w.cell? ⟨R.d, 0, none⟩ = some (.int .i64 R.size) := cell_of h.hd
theorem RawAt.c1 (h : RawAt w R) : w.cell? ⟨R.d, 1, none⟩ = some (.map (some R.f)) := cell_of h.hd
theorem RawAt.c2 (h : RawAt w R) : w.cell? ⟨R.d, 2, none⟩ = some (.map (some R.n)) := cell_of h.hd
theorem RawAt.c3 (h : RawAt w R) : w.cell? ⟨R.d, 3, none⟩ = some (.map (some R.b)) := cell_of h.hd
theorem RawAt.c4 (h : RawAt w R) : w.cell? ⟨R.d, 4, none⟩ = some (.bool R.dead) := cell_of h.hd
theorem RawAt.c5 (h : RawAt w R) : w.cell? ⟨R.d, 5, none⟩ = some R.lv := cell_of h.hd
theorem RawAt.c6 (h : RawAt w R) : w.cell? ⟨R.d, 6, none⟩ = some R.sv := cell_of h.hd
theorem RawAt.c7 (h : RawAt w R) : w.cell? ⟨R.d, 7, none⟩ = some (.pointer (some ⟨R.c, 0, none⟩)) := cell_of h.hd
theorem RawAt.cc (h : RawAt w R) : w.cell? ⟨R.c, 0, none⟩ = some (.int .i64 R.clock) := cell_of h.hc
theorem RawAt.z (h : RawAt w R) (o : Nat) : w.frozen? ⟨R.d, o, none⟩ = false := frozen_in h.hd o
end

/-! ### fault -/
theorem fault_nil (i : Int) (w : World) : Calls Try.prog 56 #[.pointer none, .int .i64 i] w fun e w' => e = .returned (.int .i64 1) ∧ w = w' := by
  go_enter Try.func56, Try.ntmps56
  go_wp2
  go_returns
  exact ⟨rfl, rfl⟩
theorem fault_dead (R : Raw) (i : Int) (w : World) (hR : RawAt w R) (hd : R.dead = true) : Calls Try.prog 56 #[.pointer (some ⟨R.d, 0, none⟩), .int .i64 i] w fun e w' => e = .returned (.int .i64 73) ∧ w = w' := by
  have h4 := hR.c4
  rw [hd] at h4
  clear hR hd
  go_enter Try.func56, Try.ntmps56
  go_wp2
  go_returns
  exact ⟨rfl, rfl⟩
theorem fault_low (R : Raw) (i : Int) (w : World) (hR : RawAt w R) (hd : R.dead = false) (hi : i < 0) : Calls Try.prog 56 #[.pointer (some ⟨R.d, 0, none⟩), .int .i64 i] w fun e w' => e = .returned (.int .i64 71) ∧ w = w' := by
  have h4 := hR.c4
  rw [hd] at h4
  clear hR hd
  go_enter Try.func56, Try.ntmps56
  go_wp2
  go_returns
  exact ⟨rfl, rfl⟩
theorem fault_high (R : Raw) (i : Int) (w : World) (hR : RawAt w R) (hd : R.dead = false) (hi : 0 ≤ i) (hn : R.size ≤ i) : Calls Try.prog 56 #[.pointer (some ⟨R.d, 0, none⟩), .int .i64 i] w fun e w' => e = .returned (.int .i64 71) ∧ w = w' := by
  have h4 := hR.c4
  have h0 := hR.c0
  rw [hd] at h4
  clear hR hd
  go_enter Try.func56, Try.ntmps56
  go_wp2
  go_returns
  exact ⟨rfl, rfl⟩
theorem fault_range (R : Raw) (i : Int) (w : World) (hR : RawAt w R) (hd : R.dead = false) (hi : ¬ (0 ≤ i ∧ i < R.size)) : Calls Try.prog 56 #[.pointer (some ⟨R.d, 0, none⟩), .int .i64 i] w fun e w' => e = .returned (.int .i64 71) ∧ w = w' := by
  by_cases h : 0 ≤ i
  · exact fault_high R i w hR hd h (by omega)
  · exact fault_low R i w hR hd (by omega)
theorem fault_ok (R : Raw) (i : Int) (w : World) (hR : RawAt w R) (hd : R.dead = false) (hi : 0 ≤ i) (hn : i < R.size) : Calls Try.prog 56 #[.pointer (some ⟨R.d, 0, none⟩), .int .i64 i] w fun e w' => e = .returned (.int .i64 0) ∧ w = w' := by
  have h4 := hR.c4
  have h0 := hR.c0
  rw [hd] at h4
  clear hR hd
  go_enter Try.func56, Try.ntmps56
  go_wp2
  go_returns
  exact ⟨rfl, rfl⟩

/-! ### Size, Dead, Bad, Writes, Moment -/
theorem size_nil (w : World) : Calls Try.prog 22 #[.pointer none] w fun e w' => e = .returned (.int .i64 0) ∧ w = w' := by
  go_enter Try.func22, Try.ntmps22
  go_wp2
  go_returns
  exact ⟨rfl, rfl⟩
theorem size_any (R : Raw) (w : World) (hR : RawAt w R) : Calls Try.prog 22 #[.pointer (some ⟨R.d, 0, none⟩)] w fun e w' => e = .returned (.int .i64 R.size) ∧ w = w' := by
  have h0 := hR.c0
  clear hR
  go_enter Try.func22, Try.ntmps22
  go_wp2
  go_returns
  exact ⟨rfl, rfl⟩
theorem dead_nil (w : World) : Calls Try.prog 24 #[.pointer none] w fun e w' => e = .returned (.bool false) ∧ w = w' := by
  go_enter Try.func24, Try.ntmps24
  go_wp2
  go_returns
  exact ⟨rfl, rfl⟩
theorem dead_any (R : Raw) (w : World) (hR : RawAt w R) : Calls Try.prog 24 #[.pointer (some ⟨R.d, 0, none⟩)] w fun e w' => e = .returned (.bool R.dead) ∧ w = w' := by
  have h0 := hR.c4
  clear hR
  go_enter Try.func24, Try.ntmps24
  go_wp2
  go_returns
  exact ⟨rfl, rfl⟩
theorem bad_nil (i : Int) (w : World) : Calls Try.prog 25 #[.pointer none, .int .i64 i] w fun e w' => e = .returned (.bool false) ∧ w = w' := by
  go_enter Try.func25, Try.ntmps25
  go_wp2
  go_returns
  exact ⟨rfl, rfl⟩
theorem writes_nil (w : World) : Calls Try.prog 27 #[.pointer none] w fun e w' => e = .returned (.int .i64 0) ∧ w = w' := by
  go_enter Try.func27, Try.ntmps27
  go_wp2
  go_returns
  exact ⟨rfl, rfl⟩
theorem writes_any (R : Raw) (w : World) (hR : RawAt w R) : Calls Try.prog 27 #[.pointer (some ⟨R.d, 0, none⟩)] w fun e w' => e = .returned (.int .i64 R.lg.length) ∧ w = w' := by
  obtain ⟨a, c, hl⟩ := hR.hl.form
  have h0 := hR.c5
  rw [hl] at h0
  clear hR hl
  go_enter Try.func27, Try.ntmps27
  go_wp2
  go_returns
  exact ⟨rfl, rfl⟩
theorem moment_nil (w : World) : Calls Try.prog 30 #[.pointer none] w fun e w' => e = .returned (.int .i64 0) ∧ w = w' := by
  go_enter Try.func30, Try.ntmps30
  go_wp2
  go_returns
  exact ⟨rfl, rfl⟩

/-! ### Read -/
def bytes64 (l : List UInt8) : List UInt8 := l ++ List.replicate (64 - l.length) 0

def Got (w : World) (l : List UInt8) (e : Ending) (w' : World) : Prop :=
  ∃ g c, e = .returned (.tuple #[.slice (some ⟨g, 0, none⟩) 64 c, .int .i64 0]) ∧ Sl w' 5 1 (.slice (some ⟨g, 0, none⟩) 64 c) 64 (bv (bytes64 l)) ∧ w.heap.size ≤ g ∧ Below w.heap.size w w'

theorem read_nil (i : Int) (w : World) : Calls Try.prog 14 #[.pointer none, .int .i64 i] w fun e w' => e = .returned (.tuple #[.slice none 0 0, .int .i64 1]) ∧ w = w' := by
  go_enter Try.func14, Try.ntmps14
  go_wp2_with (go_at_call 56; refine (fault_nil _ _).mono ?_; rintro e w' ⟨rfl, rfl⟩)
  go_ret2
  exact ⟨rfl, rfl⟩
theorem read_dead (R : Raw) (i : Int) (w : World) (hR : RawAt w R) (hd : R.dead = true) : Calls Try.prog 14 #[.pointer (some ⟨R.d, 0, none⟩), .int .i64 i] w fun e w' => e = .returned (.tuple #[.slice none 0 0, .int .i64 73]) ∧ w = w' := by
  have H := Lib.hid hd
  clear hd
  go_enter Try.func14, Try.ntmps14
  go_wp2_with (go_at_call 56; refine (fault_dead R _ _ hR H.out).mono ?_; rintro e w' ⟨rfl, rfl⟩)
  go_ret2
  exact ⟨rfl, rfl⟩
theorem read_range (R : Raw) (i : Int) (w : World) (hR : RawAt w R) (hd : R.dead = false) (hi : ¬ (0 ≤ i ∧ i < R.size)) : Calls Try.prog 14 #[.pointer (some ⟨R.d, 0, none⟩), .int .i64 i] w fun e w' => e = .returned (.tuple #[.slice none 0 0, .int .i64 71]) ∧ w = w' := by
  have H := Lib.hid hd
  clear hd
  go_enter Try.func14, Try.ntmps14
  go_wp2_with (go_at_call 56; refine (fault_range R _ _ hR H.out hi).mono ?_; rintro e w' ⟨rfl, rfl⟩)
  go_ret2
  exact ⟨rfl, rfl⟩
theorem read_bad (R : Raw) (i : Int) (w : World) (hR : RawAt w R) (hd : R.dead = false) (hi : 0 ≤ i) (hn : i < R.size) (hb : kget R.be i = some (.bool true)) : Calls Try.prog 14 #[.pointer (some ⟨R.d, 0, none⟩), .int .i64 i] w fun e w' => e = .returned (.tuple #[.slice none 0 0, .int .i64 72]) ∧ w = w' := by
  have H := Lib.hid hd
  have H2 := Lib.hid hb
  have h3 := hR.c3
  clear hd hb
  go_enter Try.func14, Try.ntmps14
  go_wp2_with (first
    | (go_at_call 56; refine (fault_ok R _ _ hR H.out hi hn).mono ?_; rintro e w' ⟨rfl, rfl⟩)
    | (at_lookup; refine wpList_lookup rfl (.tmp 17) (.tmp 18) 84 false rfl Try.underlying84 Try.underlying3 zero4 rfl i rfl hR.hb ?_; rw [H2.out]; simp only [Option.getD_some, Bool.false_eq_true, if_false]))
  go_ret2
  exact ⟨rfl, rfl⟩

theorem made64 : (madeCells #[Value.int .u8 0] (64 * 1)).toList = bv (List.replicate 64 0) := by
  rw [toList_madeCells_one]; rfl
theorem bytes64_len (l : List UInt8) (h : l.length ≤ 64) : (bytes64 l).length = 64 := by simp [bytes64]; omega

theorem read_fill (l : List UInt8) (h : l.length ≤ 64) : (bv l).take (min l.length 64 * 1) ++ (bv (List.replicate 64 0)).drop (min l.length 64 * 1) = bv (bytes64 l) := by
  have e : min l.length 64 * 1 = l.length := by omega
  rw [e]
  unfold bv bytes64
  rw [← List.map_take, ← List.map_drop, ← List.map_append, List.take_length, List.drop_replicate]

set_option maxHeartbeats 800000 in
theorem read_ok (R : Raw) (i : Int) (l : List UInt8) (w : World) (hR : RawAt w R) (hd : R.dead = false) (hi : 0 ≤ i) (hn : i < R.size) (hb : kget R.be i = none)
    (hv : Rd w 1 ((kget R.ne i).getD (.slice none 0 0)) l.length (bv l)) (hl : l.length ≤ 64) : Calls Try.prog 14 #[.pointer (some ⟨R.d, 0, none⟩), .int .i64 i] w (Got w l) := by
  obtain ⟨i0, hi0, hz0, hz1, hz2⟩ := info_parts Try.info5
  have H := Lib.hid hd
  have H2 := Lib.hid hb
  have h3 := hR.c3
  have h2 := hR.c2
  have M64 := made64
  clear hd hb
  have HM := Lib.hid M64
  clear M64
  go_enter Try.func14, Try.ntmps14
  go_wp2_with (first
    | (go_at_call 56; refine (fault_ok R _ _ hR H.out hi hn).mono ?_; rintro e w' ⟨rfl, rfl⟩)
    | (at_lookup; refine wpList_lookup rfl (.tmp 17) (.tmp 18) 84 false rfl Try.underlying84 Try.underlying3 zero4 rfl i rfl hR.hb ?_; rw [H2.out]; simp only [Option.getD_none, Bool.false_eq_true, if_false])
    | (at_make; refine wpList_op rfl fun K hK => op_make (.const (.int .i64 64)) (.const (.int .i64 64)) 28 rfl 5 i0 _ 1 1 Try.underlying28 hi0 hz0 hz1 hz2 64 64 64 rfl rfl rfl rfl (by decide) (by decide) ?_; intro w1 hm hf; have h2' := hf.cell h2 id; refine hK _ _ ?_; simp only [Act.put, List.setIfInBounds_toArray, List.set_cons_zero, List.set_cons_succ])
    | (at_lookup; refine wpList_lookup rfl (.tmp 25) (.tmp 26) 83 false rfl Try.underlying83 Try.underlying3 zero28 rfl i rfl (hR.hn.keep hf id) ?_; simp only [Bool.false_eq_true, if_false])
    | (with_reducible refine wpList_op rfl fun K hK => op_copy (.tmp 21) (.tmp 27) 28 28 rfl 5 i0 1 Try.underlying28 hi0 hz1 (.slice (some ⟨w.heap.size, 0, none⟩) 64 64) 64 _ rfl hm ((kget R.ne i).getD (.slice none 0 0)) l.length (bv l) rfl (hv.keep hf (fun _ _ => id)) (bv_one l) ?_; intro w2 hm2 hf2; refine hK _ _ ?_; simp only [Act.put, List.setIfInBounds_toArray, List.set_cons_zero, List.set_cons_succ]))
  go_ret2
  refine ⟨_, _, rfl, ?_, Nat.le_refl _, ?_⟩
  · have e := HM.out
    rw [show (madeCells (Value.int .u8 0).cells (64 * 1)).toList = bv (List.replicate 64 0) from e, read_fill l hl] at hm2
    exact hm2
  · exact ((hf.mono (S' := fun k => k = w.heap.size) (fun _ _ => False.elim)).trans hf2 (fun j _ e => by cases e; rfl)).fresh (fun k hk e => by omega)

end Go.Proofs.Ytbakgaogehofbaa
