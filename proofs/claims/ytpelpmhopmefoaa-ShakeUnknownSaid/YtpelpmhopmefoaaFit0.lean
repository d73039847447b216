/-
Walks of cofferdamlaw21: Fit.
-/
import Derived.Test.YtpelpmhopmefoaaShake9
namespace Go.Proofs.Ytpelpmhopmefoaa
open Go.RowKit Go.Cof
set_option maxRecDepth 100000
set_option linter.unusedSimpArgs false

def fitZ (z : Int) : Nat := (if z < 0 then -(z + 1) else z).toNat % 8193
theorem fitZ_le (z : Int) : fitZ z ≤ 8192 := by unfold fitZ; omega

def FitDone (n : List UInt8) (z : Int) (r : Bool) (w : World) (e : Ending) (w' : World) : Prop :=
  e = .returned (.agg #[.string (strB (n.take 64)), .int .i64 (fitZ z), .bool r]) ∧ Fr (fun _ => False) w w'

theorem strB_extract (n : List UInt8) (k : Nat) : (strB n).extract 0 k = strB (n.take k) := by
  have := extract_strB n k
  rw [ByteArray.toList_eq] at this
  apply ByteArray.ext
  apply Array.ext'
  rw [this]
  rfl

theorem fit_world (n : List UInt8) (m : Nat) (r : Bool) (w : World) : ∀ W, W = (w.alloc (.cells #[.string (strB n), .int .i64 m, .bool r] 23)).alloc (.cells #[.string { data := #[] }, .int .i64 0, .bool false] 23) →
    W.cell? ⟨w.heap.size, 0, none⟩ = some (.string (strB n)) ∧ W.cell? ⟨w.heap.size, 1, none⟩ = some (.int .i64 m) ∧ W.cell? ⟨w.heap.size, 2, none⟩ = some (.bool r) ∧ Fr (fun _ => False) w W ∧ W.heap[w.heap.size + 1]? = some (.cells #[.string { data := #[] }, .int .i64 0, .bool false] 23 (0, 0)) := by
  rintro W rfl
  refine ⟨cell_of (heap_old _ _ (heap_new w _)), cell_of (heap_old _ _ (heap_new w _)), cell_of (heap_old _ _ (heap_new w _)), ((Fr.refl _ w).alloc _).alloc _, ?_⟩
  have := heap_new (w.alloc (.cells #[.string (strB n), .int .i64 m, .bool r] 23)) (.cells #[.string { data := #[] }, .int .i64 0, .bool false] 23)
  rw [World.size_alloc] at this
  exact this

theorem fit_take (n : List UInt8) (L : Nat) (h : n.length = L) (hs : L ≤ 64) : (strB n).extract 0 L = strB (n.take 64) := by
  rw [strB_extract, List.take_of_length_le (by omega), List.take_of_length_le (by omega)]

theorem fit_end {n : List UInt8} {z : Int} {r : Bool} {w W : World} {m : Nat} (hf : Fr (fun _ => False) w W) (s : ByteArray) (hs : s = strB (n.take 64)) (he : fitZ z = m % 8193) :
    FitDone n z r w (.returned (.agg #[.string s, .int .i64 ((m : Int) % 8193), .bool r])) (((W.setCell ⟨w.heap.size + 1, 0, none⟩ (.string s)).setCell ⟨w.heap.size + 1, 1, none⟩ (.int .i64 ((m : Int) % 8193))).setCell ⟨w.heap.size + 1, 2, none⟩ (.bool r)).drew := by
  subst hs
  refine ⟨by rw [he]; rfl, Fr.drew (Fr.of_below0 ((((((hf.mono (S' := fun k => k = w.heap.size + 1) (fun _ _ => False.elim)).setB rfl 0 _).setB rfl 1 _).setB rfl 2 _)).fresh (fun k hk e => by omega)))⟩

set_option maxHeartbeats 1000000 in
theorem fit_any (n : List UInt8) (z : Int) (r : Bool) (w : World) (h1 : -9223372036854775808 ≤ z) (h2 : z ≤ 9223372036854775807) (hn : n.length ≤ 9223372036854775807) :
    Calls Try.prog 18 #[.agg #[.string (strB n), .int .i64 z, .bool r]] w (FitDone n z r w) := by
  have hsz : (strB n).size = n.length := rfl
  obtain ⟨m, hm⟩ : ∃ m : Nat, (if z < 0 then -(z + 1) else z) = (m : Int) := ⟨(if z < 0 then -(z + 1) else z).toNat, by split <;> omega⟩
  have E : Hid (fitZ z = m % 8193) := Lib.hid (by rw [fitZ, hm]; rfl)
  have hm63 : (m : Int) ≤ 9223372036854775807 := by rw [← hm]; split <;> omega
  have X : Hid (∀ k, (strB n).extract 0 k = strB (n.take k)) := Lib.hid (strB_extract n)
  obtain ⟨L, hL⟩ : ∃ L, n.length = L := ⟨_, rfl⟩
  have Y : Hid (L ≤ 64 → (strB n).extract 0 L = strB (n.take 64)) := Lib.hid (fit_take n L hL)
  rw [hL] at hn hsz
  have HM := Lib.hid hm
  clear hm hL
  rcases Decidable.em (z < 0) with hz | hz
  all_goals
    rcases Decidable.em (L ≤ 64) with hl | hl
  all_goals
    go_enter Try.func18, Try.ntmps18
    go_wp2_with fail
    have hm := HM.out
    first
      | rw [if_pos hz] at hm
      | rw [if_neg (by omega)] at hm
    rw [hm]
    clear hm
    obtain ⟨W, hW⟩ : ∃ W, W = (w.alloc (.cells #[.string (strB n), .int .i64 m, .bool r] 23)).alloc (.cells #[.string { data := #[] }, .int .i64 0, .bool false] 23) := ⟨_, rfl⟩
    obtain ⟨q0, q1, q2, hf, hb⟩ := fit_world n m r w W hW
    rw [← hW]
    clear hW
    have y0 : ∀ o, W.cell? ⟨w.heap.size + 1, o, none⟩ = #[Value.string { data := #[] }, .int .i64 0, .bool false][o]? := cells_in hb
    have z0 := frozen_in hb
    have b1 := lt_of_heap hb
    have HB := Lib.hid hb
    have HF := Lib.hid hf
    clear hb hf
    go_wp2_with fail
    refine wp_drawn (by kernel_rfl) ?_
    -- 0: fieldAddr
    refine wpY_pure0 0 rfl rfl (by kernel_rfl) (by kernel_rfl) (fun K hK => ?_); go_wp2_with fail
    -- 2: fieldAddr
    refine wpY_pure0 2 rfl rfl (by kernel_rfl) (by kernel_rfl) (fun K hK => ?_); go_wp2_with fail
    -- 7: fieldAddr
    refine wpY_pure0 7 rfl rfl (by kernel_rfl) (by kernel_rfl) (fun K hK => ?_); go_wp2_with fail
    -- 10: fieldAddr
    refine wpY_pure0 10 rfl rfl (by kernel_rfl) (by kernel_rfl) (fun K hK => ?_); go_wp2_with fail
    -- 1: load
    refine wpY_read0 1 rfl rfl (by kernel_rfl) rfl (fun K hK => ?_); go_wp2_with fail
    -- 3: load
    refine wpY_read0 3 rfl rfl (by kernel_rfl) rfl (fun K hK => ?_); go_wp2_with fail
    -- 4: call
    refine wpY_read0 4 rfl rfl (by kernel_rfl) rfl (fun K hK => ?_); go_wp2_with fail
    -- 8: load
    refine wpY_read0 8 rfl rfl (by kernel_rfl) rfl (fun K hK => ?_); go_wp2_with fail
    -- 9: binOp
    refine wpY_pure0 9 rfl rfl (by kernel_rfl) (by kernel_rfl) (fun K hK => ?_); go_wp2_with fail
    -- 11: load
    refine wpY_read0 11 rfl rfl (by kernel_rfl) rfl (fun K hK => ?_); go_wp2_with fail
    -- 5: call
    refine wpY_one0 5 [11, 8, 1] rfl rfl (by kernel_rfl) (by kernel_rfl) (fun K hK => ?_)
    go_wp2_with fail
    refine ⟨⟨?_, ?_, ?_, trivial⟩, ?_⟩
    · refine again_run0 rfl rfl rfl (fun K hK => ?_); go_wp2_with fail; exact trivial
    · refine again_run0 rfl rfl rfl (fun K hK => ?_); go_wp2_with fail; exact trivial
    · refine again_run0 rfl rfl rfl (fun K hK => ?_); go_wp2_with fail; exact trivial
    -- 6: slice
    refine wpY_read0 6 rfl rfl (by kernel_rfl) rfl (fun K hK => ?_); go_wp2_with fail
    -- 12: build
    refine wpY_pure0 12 rfl rfl (by kernel_rfl) (by kernel_rfl) (fun K hK => ?_); go_wp2_with fail
    -- 13: store
    refine wpY_one0 13 [] rfl rfl (by kernel_rfl) (by kernel_rfl) (fun K hK => ?_)
    go_wp2_with fail
    refine ⟨trivial, ?_⟩
    refine wpY_done (by kernel_rfl) ?_ _
    go_wp2_with fail
    have kx : ∀ (s : ByteArray), s = strB (n.take 64) → FitDone n z r w (.returned (.agg #[.string s, .int .i64 ((m : Int) % 8193), .bool r])) (((W.setCell ⟨w.heap.size + 1, 0, none⟩ (.string s)).setCell ⟨w.heap.size + 1, 1, none⟩ (.int .i64 ((m : Int) % 8193))).setCell ⟨w.heap.size + 1, 2, none⟩ (.bool r)).drew :=
      fun s hs => fit_end HF.out s hs E.out
    have hh : ∀ (s : ByteArray), ((((W.setCell ⟨w.heap.size + 1, 0, none⟩ (.string s)).setCell ⟨w.heap.size + 1, 1, none⟩ (.int .i64 ((m : Int) % 8193))).setCell ⟨w.heap.size + 1, 2, none⟩ (.bool r)).drew).heap[w.heap.size + 1]? = some (.cells #[.string s, .int .i64 ((m : Int) % 8193), .bool r] 23 (0, 0)) :=
      fun s => heap_set (.bool r) (heap_set (.int .i64 ((m : Int) % 8193)) (heap_set (.string s) HB.out))
    first
      | (have e := Y.out hl
         have kx := kx _ e
         have hh := hh ((strB n).extract 0 L)
         generalize (((W.setCell ⟨w.heap.size + 1, 0, none⟩ (.string ((strB n).extract 0 L))).setCell ⟨w.heap.size + 1, 1, none⟩ (.int .i64 ((m : Int) % 8193))).setCell ⟨w.heap.size + 1, 2, none⟩ (.bool r)).drew = W2 at *
         have k0 := cell_of (o := 0) hh
         have k1 := cell_of (o := 1) hh
         have k2 := cell_of (o := 2) hh
         clear e
         refine bodyPost_ret (v := .agg #[.string ((strB n).extract 0 L), .int .i64 ((m : Int) % 8193), .bool r]) (by simp [results, Try.results18, go_sem, Result.andThen, k0, k1, k2]) rfl kx)
      | (have kx := kx ((strB n).extract 0 64) (X.out 64)
         have hh := hh ((strB n).extract 0 64)
         generalize (((W.setCell ⟨w.heap.size + 1, 0, none⟩ (.string ((strB n).extract 0 64))).setCell ⟨w.heap.size + 1, 1, none⟩ (.int .i64 ((m : Int) % 8193))).setCell ⟨w.heap.size + 1, 2, none⟩ (.bool r)).drew = W2 at *
         have k0 := cell_of (o := 0) hh
         have k1 := cell_of (o := 1) hh
         have k2 := cell_of (o := 2) hh
         refine bodyPost_ret (v := .agg #[.string ((strB n).extract 0 64), .int .i64 ((m : Int) % 8193), .bool r]) (by simp [results, Try.results18, go_sem, Result.andThen, k0, k1, k2]) rfl kx)

end Go.Proofs.Ytpelpmhopmefoaa
