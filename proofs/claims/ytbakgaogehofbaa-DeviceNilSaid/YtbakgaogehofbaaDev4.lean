/-
Walks of package device: safe, Pending, left, Cut of a device with two writes, of which one is safe.
-/
import Derived.LoopN
import Derived.Test.YtbakgaogehofbaaDev3
namespace Go.Proofs.Ytbakgaogehofbaa
open Go.RowKit Go.Cof
set_option maxRecDepth 100000
set_option linter.unusedSimpArgs false

theorem _root_.Go.Cof.Sl.base {w : World} {e : TypeId} {sz n : Nat} {v : Value} {xs : List Value} (h : Sl w e sz v n xs) (hn : 0 < n) :
    ∃ g off cap, v = .slice (some ⟨g, off, none⟩) n cap ∧ n ≤ cap ∧ g < w.heap.size ∧ ∀ j u, xs[j]? = some u → w.cell? ⟨g, off + j, none⟩ = some u := by
  obtain ⟨h1, h2 | ⟨g, off, cap, cur, fz, rfl, h4, h5, h6, h7, h8, h9⟩⟩ := h
  · omega
  · refine ⟨g, off, cap, rfl, h5, lt_of_heap h4, fun j u hu => ?_⟩
    have hj : j < xs.length := (List.getElem?_eq_some_iff.1 hu).1
    rw [cell_of h4, h8 j (by omega), hu]

theorem safe_none (R : Raw) (w : World) (hR : RawAt w R) (hs : R.sy = []) : Calls Try.prog 58 #[.pointer (some ⟨R.d, 0, none⟩)] w fun e w' => e = .returned (.int .i64 0) ∧ Fr (fun _ => False) w w' := by
  obtain ⟨a, c, hl⟩ := hR.hs.form
  have h6 := hR.c6
  rw [hl, hs] at h6
  clear hR hl hs
  go_enter Try.func58, Try.ntmps58
  go_wp2
  go_returns
  exact ⟨rfl, Fr.refl _ _⟩

theorem safe_one (R : Raw) (n m : Int) (w : World) (hR : RawAt w R) (hs : R.sy = [(n, m)]) : Calls Try.prog 58 #[.pointer (some ⟨R.d, 0, none⟩)] w fun e w' => e = .returned (.int .i64 n) ∧ Fr (fun _ => False) w w' := by
  obtain ⟨g, o, cap, hl, hc, hg, hx⟩ := hR.hs.base (by simp [hs])
  have h6 := hR.c6
  have k0 := hx 0 (.int .i64 n) (by simp [hs, syncCells])
  rw [hl, hs] at h6
  have hd := lt_of_heap hR.hd
  simp only [List.length_cons, List.length_nil, Nat.zero_add, Nat.add_zero] at h6 k0
  clear hR hl hs hx hc
  go_enter Try.func58, Try.ntmps58
  go_wp2
  refine wp_drawn (by kernel_rfl) ?_
  -- 0: move
  refine wpY_pure0 0 rfl rfl (by kernel_rfl) (by kernel_rfl) (fun K hK => ?_); go_wp2_with fail
  -- 1: nilCheck
  refine wpY_pure0 1 rfl rfl (by kernel_rfl) (by kernel_rfl) (fun K hK => ?_); go_wp2_with fail
  -- 2: fieldAddr
  refine wpY_pure0 2 rfl rfl (by kernel_rfl) (by kernel_rfl) (fun K hK => ?_); go_wp2_with fail
  -- 4: move
  refine wpY_pure0 4 rfl rfl (by kernel_rfl) (by kernel_rfl) (fun K hK => ?_); go_wp2_with fail
  -- 5: nilCheck
  refine wpY_pure0 5 rfl rfl (by kernel_rfl) (by kernel_rfl) (fun K hK => ?_); go_wp2_with fail
  -- 6: fieldAddr
  refine wpY_pure0 6 rfl rfl (by kernel_rfl) (by kernel_rfl) (fun K hK => ?_); go_wp2_with fail
  -- 3: load
  refine wpY_read0 3 rfl rfl (by kernel_rfl) rfl (fun K hK => ?_); go_wp2_with fail
  -- 7: load
  refine wpY_read0 7 rfl rfl (by kernel_rfl) rfl (fun K hK => ?_); go_wp2_with fail
  -- 8: call
  refine wpY_pure0 8 rfl rfl (by kernel_rfl) (by kernel_rfl) (fun K hK => ?_); go_wp2_with fail
  -- 9: binOp
  refine wpY_pure0 9 rfl rfl (by kernel_rfl) (by kernel_rfl) (fun K hK => ?_); go_wp2_with fail
  -- 10: indexAddr
  refine wpY_pure0 10 rfl rfl (by kernel_rfl) (by kernel_rfl) (fun K hK => ?_); go_wp2_with fail
  -- 11: fieldAddr
  refine wpY_pure0 11 rfl rfl (by kernel_rfl) (by kernel_rfl) (fun K hK => ?_); go_wp2_with fail
  -- 12: load
  refine wpY_read0 12 rfl rfl (by kernel_rfl) rfl (fun K hK => ?_); go_wp2_with fail
  -- 13: assign
  refine wpY_pure0 13 rfl rfl (by kernel_rfl) (by kernel_rfl) (fun K hK => ?_); go_wp2_with fail
  refine wpY_done (by kernel_rfl) ?_ _
  go_wp2
  go_returns
  exact ⟨rfl, (Fr.refl _ _).drew⟩

set_option maxHeartbeats 4000000 in
theorem pending_two (R : Raw) (m i1 i2 m1 m2 : Int) (v1 : Value) (b2 : Option Addr) (n2 c2 : Nat) (w : World) (hR : RawAt w R) (hs : R.sy = [(1, m)]) (hl : R.lg = [(i1, v1, false, m1), (i2, .slice b2 n2 c2, false, m2)]) :
    Calls Try.prog 26 #[.pointer (some ⟨R.d, 0, none⟩)] w fun e w' => e = .returned (.int .i64 1) ∧ Fr (fun _ => False) w w' := by
  obtain ⟨g, o, cap, hv, hc, hg, hx⟩ := hR.hl.base (by simp [hl])
  have h5 := hR.c5
  have k0 := hx 4 (.int .i64 i2) (by simp [hl, logCells])
  have k1 := hx 5 (.slice b2 n2 c2) (by simp [hl, logCells])
  have k2 := hx 6 (.bool false) (by simp [hl, logCells])
  have k3 := hx 7 (.int .i64 m2) (by simp [hl, logCells])
  rw [hv, hl] at h5
  have hd := lt_of_heap hR.hd
  simp only [List.length_cons, List.length_nil, Nat.zero_add, Nat.add_zero, Nat.reduceAdd] at h5
  have hc2 : 2 ≤ cap := by simpa [hl] using hc
  have HR := Lib.hid hR
  have HS := Lib.hid hs
  clear hR hl hv hs hx hc
  go_enter Try.func26, Try.ntmps26
  go_wp2
  refine wp_drawn (by kernel_rfl) ?_
  -- 0: move
  refine wpY_pure0 0 rfl rfl (by kernel_rfl) (by kernel_rfl) (fun K hK => ?_); go_wp2_with fail
  -- 1: nilCheck
  refine wpY_pure0 1 rfl rfl (by kernel_rfl) (by kernel_rfl) (fun K hK => ?_); go_wp2_with fail
  -- 2: fieldAddr
  refine wpY_pure0 2 rfl rfl (by kernel_rfl) (by kernel_rfl) (fun K hK => ?_); go_wp2_with fail
  -- 4: move
  refine wpY_pure0 4 rfl rfl (by kernel_rfl) (by kernel_rfl) (fun K hK => ?_); go_wp2_with fail
  -- 8: move
  refine wpY_pure0 8 rfl rfl (by kernel_rfl) (by kernel_rfl) (fun K hK => ?_); go_wp2_with fail
  -- 3: load
  refine wpY_read0 3 rfl rfl (by kernel_rfl) rfl (fun K hK => ?_); go_wp2_with fail
  -- 5: call
  refine wpY_one0 5 [3] rfl rfl (by kernel_rfl) (by kernel_rfl) (fun K hK => ?_)
  go_wp2_with (go_at_call 58; refine (safe_one R 1 m _ (HR.out.keep (S := fun _ => False) (by repeat' (first | with_reducible exact Fr.refl _ _ | with_reducible assumption | with_reducible refine Fr.drew ?_ | with_reducible refine Fr.alloc ?_ _)) (fun _ _ => id)) HS.out).mono ?_; rintro e w1 ⟨rfl, hf0⟩; have hf := hf0.trans' (a := w) (by repeat' (first | with_reducible exact Fr.refl _ _ | with_reducible assumption | with_reducible refine Fr.drew ?_ | with_reducible refine Fr.alloc ?_ _)); have h5' := hf.cell h5 id; have k0' := hf.cell k0 id; have k1' := hf.cell k1 id; have k2' := hf.cell k2 id; have k3' := hf.cell k3 id; have hg' := Nat.lt_of_lt_of_le hg hf.size)
  refine ⟨⟨?_, trivial⟩, ?_⟩
  · refine again_run0 rfl rfl rfl (fun K hK => ?_); go_wp2_with fail; exact trivial
  -- 6: slice
  refine wpY_pure0 6 rfl rfl (by kernel_rfl) (by kernel_rfl) (fun K hK => ?_); go_wp2_with fail
  -- 7: call
  refine wpY_pure0 7 rfl rfl (by kernel_rfl) (by kernel_rfl) (fun K hK => ?_); go_wp2_with fail
  refine wpY_done (by kernel_rfl) ?_ _
  go_wp2
  refine wp_loop_rounds 2 ?_
  rw [rounds_succ]
  go_wp2
  rw [rounds_succ]
  go_wp2
  go_returns
  exact ⟨rfl, hf.alloc _⟩

/-- What a loss of power leaves of one write that is safe, and none that is not. -/
def LeftPost (R : Raw) (i1 : Int) (v1 : Value) (w : World) (e : Ending) (w' : World) : Prop :=
  ∃ C : Raw, e = .returned (.pointer (some ⟨C.d, 0, none⟩)) ∧ RawAt w' C ∧ C.be = R.be ∧ C.dead = R.dead ∧ C.size = R.size ∧ C.ne = kput R.fe i1 v1 ∧ Fr (fun _ => False) w w'

def Raw.mid (B : Nat) (n : Int) (F G : Nat) (fe be : List (Int × Value)) (dead : Bool) : Raw :=
  { d := B + 4, f := F, n := B + 1, b := G, c := B + 3, lv := .slice none 0 0, sv := .slice none 0 0, fe := fe, ne := [], be := be, lg := [], sy := [], size := n, dead := dead, clock := 0 }

theorem left_mid {w w2 w3 : World} {n : Int} {F G : Nat} {fe be : List (Int × Value)} {dead : Bool} (hC : RawAt w3 (Raw.new w.heap.size n)) (hF : w.heap.size + 5 ≤ F) (hm2 : MapL w2 F fe) (hf3 : Fr (fun _ => False) w2 w3) (hG : w2.heap.size ≤ G) (hm3 : MapL w3 G be) :
    ∃ w4, w4 = (((w3.setCell ⟨w.heap.size + 4, 1, none⟩ (.map (some F))).setCell ⟨w.heap.size + 4, 3, none⟩ (.map (some G))).setCell ⟨w.heap.size + 4, 4, none⟩ (.bool dead)) ∧
      RawAt w4 (Raw.mid w.heap.size n F G fe be dead) ∧ Fr (fun k => k = w.heap.size + 4) w3 w4 := by
  have hFl := hm2.lt
  have fr : Fr (fun k => k = w.heap.size + 4) w3 (((w3.setCell ⟨w.heap.size + 4, 1, none⟩ (.map (some F))).setCell ⟨w.heap.size + 4, 3, none⟩ (.map (some G))).setCell ⟨w.heap.size + 4, 4, none⟩ (.bool dead)) :=
    (((Fr.refl (fun k => k = w.heap.size + 4) w3).setB rfl 1 _).setB rfl 3 _).setB rfl 4 _
  refine ⟨_, rfl, ⟨?_, ?_, ?_, ?_, ?_, Sl.nil _ _ _, Sl.nil _ _ _, ?_, (fun k hk => by simp [Raw.mid, Value.ownBlock] at hk), (fun k hk => by simp [Raw.mid, Value.ownBlock] at hk)⟩, fr⟩
  · have h := heap_set (.bool dead) (o := 4) (heap_set (.map (some G)) (o := 3) (heap_set (.map (some F)) (o := 1) hC.hd))
    simpa [Raw.new, Raw.mid] using h
  · exact (hm2.keep hf3 id).keep fr (fun e => by first | omega | (simp only [Raw.mid] at e; omega))
  · exact hC.hn.keep fr (fun e => by first | omega | (simp only [Raw.new] at e; omega))
  · exact hm3.keep fr (show ¬ (G = w.heap.size + 4) by omega)
  · exact fr.heap hC.hc (show ¬ (w.heap.size + 3 = w.heap.size + 4) by omega)
  · simp only [Raw.mid, List.nodup_cons, List.mem_cons, List.not_mem_nil, or_false, not_or, not_false_eq_true, List.nodup_nil, and_true]
    omega

theorem left_end {w w5 w6 w7 w8 : World} {n : Int} {F G : Nat} {fe be fe' : List (Int × Value)} {dead : Bool} (hC : RawAt w5 (Raw.mid w.heap.size n F G fe be dead)) (hF : w.heap.size + 5 ≤ F) (hm6 : MapL w6 F fe') (hf6 : Fr (fun k => k = F) w5 w6)
    (hf7 : Fr (fun _ => False) w6 w7) (hm8 : MapL w8 w7.heap.size fe') (hf8 : Fr (fun _ => False) w7 w8) :
    RawAt (w8.setCell ⟨w.heap.size + 4, 2, none⟩ (.map (some w7.heap.size))) { Raw.mid w.heap.size n F G fe' be dead with n := w7.heap.size, ne := fe' } ∧
      Fr (fun k => k = w.heap.size + 4 ∨ k = F) w5 (w8.setCell ⟨w.heap.size + 4, 2, none⟩ (.map (some w7.heap.size))) := by
  have nd := hC.nd
  simp only [Raw.mid, List.nodup_cons, List.mem_cons, List.not_mem_nil, or_false, not_or, not_false_eq_true, List.nodup_nil, and_true] at nd
  obtain ⟨⟨n1, n2, n3, n4⟩, ⟨n5, n6, n7⟩, ⟨n8, n9⟩, n10⟩ := nd
  have f1 : Fr (fun k => k = F) w5 w8 := (hf6.trans hf7 (fun _ _ => False.elim)).trans hf8 (fun _ _ => False.elim)
  have fr : Fr (fun k => k = w.heap.size + 4) w8 (w8.setCell ⟨w.heap.size + 4, 2, none⟩ (.map (some w7.heap.size))) := (Fr.refl (fun k => k = w.heap.size + 4) w8).setB rfl 2 _
  have f2 : Fr (fun k => k = w.heap.size + 4 ∨ k = F) w5 (w8.setCell ⟨w.heap.size + 4, 2, none⟩ (.map (some w7.heap.size))) := (f1.mono (fun _ _ => .inr)).trans fr (fun _ _ => .inl)
  have s1 := hf6.size
  have s2 := hf7.size
  have l0 : w.heap.size + 4 < w5.heap.size := lt_of_heap hC.hd
  have l1 : F < w5.heap.size := hC.hf.lt
  have l2 : G < w5.heap.size := hC.hb.lt
  have l3 : w.heap.size + 3 < w5.heap.size := lt_of_heap hC.hc
  refine ⟨⟨?_, ?_, ?_, ?_, ?_, Sl.nil _ _ _, Sl.nil _ _ _, ?_, (fun k hk => by simp [Raw.mid, Value.ownBlock] at hk), (fun k hk => by simp [Raw.mid, Value.ownBlock] at hk)⟩, f2⟩
  · have h := heap_set (.map (some w7.heap.size)) (o := 2) (f1.heap hC.hd (fun e => by first | omega | (simp only [Raw.mid] at e; omega)))
    simpa [Raw.mid] using h
  · exact ((hm6.keep hf7 id).keep hf8 id).keep fr (fun e => by first | omega | (simp only [Raw.mid] at e; omega))
  · exact hm8.keep fr (by omega)
  · exact hC.hb.keep f2 (fun e => by first | omega | (simp only [Raw.mid] at e; omega))
  · exact f2.heap hC.hc (fun e => by first | omega | (simp only [Raw.mid] at e; omega))
  · simp only [Raw.mid, List.nodup_cons, List.mem_cons, List.not_mem_nil, or_false, not_or, not_false_eq_true, List.nodup_nil, and_true]
    omega

theorem left_last {w w1 w4 w6 w7 w8 : World} {F G : Nat} (R : Raw) (i1 : Int) (v1 : Value) (hf1 : Fr (fun _ => False) w w1) (hf4 : Fr (fun k => k = w.heap.size + 4) w1 w4) (hM : RawAt w4 (Raw.mid w.heap.size R.size F G R.fe R.be R.dead)) (hF : w.heap.size + 5 ≤ F)
    (hm6 : MapL w6 F (kput R.fe i1 v1)) (hf6 : Fr (fun k => k = F) w4 w6) (hf7 : Fr (fun _ => False) w6 w7) (hm8 : MapL w8 w7.heap.size (kput R.fe i1 v1)) (hf8 : Fr (fun _ => False) w7 w8) :
    LeftPost R i1 v1 w (.returned (.pointer (some ⟨w.heap.size + 4, 0, none⟩))) (w8.setCell ⟨w.heap.size + 4, 2, none⟩ (.map (some w7.heap.size))) := by
  obtain ⟨h1, h2⟩ := left_end hM hF hm6 hf6 hf7 hm8 hf8
  refine ⟨_, rfl, h1, rfl, rfl, rfl, rfl, ?_⟩
  refine hf1.trans ((hf4.mono (S' := fun k => k = w.heap.size + 4 ∨ k = F) (fun _ _ => .inl)).trans h2 (fun _ _ => id)) (fun j hj e => ?_)
  omega

set_option maxHeartbeats 8000000 in
theorem left_two (R : Raw) (i1 i2 m1 m2 : Int) (b1 b2 : Option Addr) (n1 c1 n2 c2 : Nat) (w : World) (hR : RawAt w R) (hz : 1 ≤ R.size) (hz2 : R.size ≤ 2048) (hl : R.lg = [(i1, .slice b1 n1 c1, false, m1), (i2, .slice b2 n2 c2, false, m2)]) :
    Calls Try.prog 59 #[.pointer (some ⟨R.d, 0, none⟩), .int .i64 1, .int .i64 2, .slice none 0 0] w (LeftPost R i1 (.slice b1 n1 c1) w) := by
  obtain ⟨g, o, cap, hv, hc, hg, hx⟩ := hR.hl.base (by simp [hl])
  have h0 := hR.c0
  have h1 := hR.c1
  have h3 := hR.c3
  have h4 := hR.c4
  have h5 := hR.c5
  have k0 := hx 0 (.int .i64 i1) (by simp [hl, logCells])
  have k1 := hx 1 (.slice b1 n1 c1) (by simp [hl, logCells])
  have k2 := hx 2 (.bool false) (by simp [hl, logCells])
  have k3 := hx 3 (.int .i64 m1) (by simp [hl, logCells])
  have k4 := hx 4 (.int .i64 i2) (by simp [hl, logCells])
  have k5 := hx 5 (.slice b2 n2 c2) (by simp [hl, logCells])
  have k6 := hx 6 (.bool false) (by simp [hl, logCells])
  have k7 := hx 7 (.int .i64 m2) (by simp [hl, logCells])
  rw [hv, hl] at h5
  have hd := lt_of_heap hR.hd
  simp only [List.length_cons, List.length_nil, Nat.zero_add, Nat.add_zero, Nat.reduceAdd] at h5 k0
  have hc2 : 2 ≤ cap := by simpa [hl] using hc
  have HR := Lib.hid hR
  clear hR hl hv hx hc
  go_enter Try.func59, Try.ntmps59
  go_upto_region 2 with (go_at_call 33; refine (new_ok _ _ hz hz2).mono ?_; rintro e w1 ⟨rfl, hC, hb⟩)
  have hf1 : Fr (fun _ => False) w w1 := ⟨hb.os, hb.tape, hb.output, hb.size, fun k hk _ => hb.block k hk⟩
  have HR1 := Lib.hid (HR.out.keep hf1 (fun _ _ => id))
  have hd0 : R.d ≠ w.heap.size + 4 := by omega
  have hg0 : g ≠ w.heap.size + 4 := by omega
  replace h1 := hf1.cell h1 id
  replace h3 := hf1.cell h3 id
  replace h4 := hf1.cell h4 id
  replace h5 := hf1.cell h5 id
  replace k0 := hf1.cell k0 id
  replace k1 := hf1.cell k1 id
  replace k2 := hf1.cell k2 id
  replace k3 := hf1.cell k3 id
  replace k4 := hf1.cell k4 id
  replace k5 := hf1.cell k5 id
  replace k6 := hf1.cell k6 id
  replace k7 := hf1.cell k7 id
  replace hd := Nat.lt_of_lt_of_le hd hf1.size
  replace hg := Nat.lt_of_lt_of_le hg hf1.size
  clear h0
  have HC := Lib.hid hC
  have HF1 := Lib.hid hf1
  have hcs := lt_of_heap hC.hd
  simp only [Raw.new] at hcs
  clear hC hf1 hb
  refine wp_drawn (by kernel_rfl) ?_
  -- 0: move
  refine wpY_pure0 0 rfl rfl (by kernel_rfl) (by kernel_rfl) (fun K hK => ?_); go_wp2_with fail
  -- 1: move
  refine wpY_pure0 1 rfl rfl (by kernel_rfl) (by kernel_rfl) (fun K hK => ?_); go_wp2_with fail
  -- 2: move
  refine wpY_pure0 2 rfl rfl (by kernel_rfl) (by kernel_rfl) (fun K hK => ?_); go_wp2_with fail
  -- 3: move
  refine wpY_pure0 3 rfl rfl (by kernel_rfl) (by kernel_rfl) (fun K hK => ?_); go_wp2_with fail
  -- 4: nilCheck
  refine wpY_pure0 4 rfl rfl (by kernel_rfl) (by kernel_rfl) (fun K hK => ?_); go_wp2_with fail
  -- 5: fieldAddr
  refine wpY_pure0 5 rfl rfl (by kernel_rfl) (by kernel_rfl) (fun K hK => ?_); go_wp2_with fail
  -- 8: move
  refine wpY_pure0 8 rfl rfl (by kernel_rfl) (by kernel_rfl) (fun K hK => ?_); go_wp2_with fail
  -- 9: nilCheck
  refine wpY_pure0 9 rfl rfl (by kernel_rfl) (by kernel_rfl) (fun K hK => ?_); go_wp2_with fail
  -- 10: fieldAddr
  refine wpY_pure0 10 rfl rfl (by kernel_rfl) (by kernel_rfl) (fun K hK => ?_); go_wp2_with fail
  -- 13: move
  refine wpY_pure0 13 rfl rfl (by kernel_rfl) (by kernel_rfl) (fun K hK => ?_); go_wp2_with fail
  -- 14: nilCheck
  refine wpY_pure0 14 rfl rfl (by kernel_rfl) (by kernel_rfl) (fun K hK => ?_); go_wp2_with fail
  -- 15: fieldAddr
  refine wpY_pure0 15 rfl rfl (by kernel_rfl) (by kernel_rfl) (fun K hK => ?_); go_wp2_with fail
  -- 6: load
  refine wpY_read0 6 rfl rfl (by kernel_rfl) rfl (fun K hK => ?_); go_wp2_with fail
  -- 11: load
  refine wpY_read0 11 rfl rfl (by kernel_rfl) rfl (fun K hK => ?_); go_wp2_with fail
  -- 16: load
  refine wpY_read0 16 rfl rfl (by kernel_rfl) rfl (fun K hK => ?_); go_wp2_with fail
  -- 7: call
  refine wpY_one0 7 [16, 11] rfl rfl (by kernel_rfl) (by kernel_rfl) (fun K hK => ?_)
  go_wp2_with (go_at_call 73; refine (mapsClone73 _ R.fe _ (HR1.out.hf.keep (S := fun _ => False) (by repeat' (first | with_reducible exact Fr.refl _ _ | with_reducible assumption | with_reducible refine Fr.drew ?_ | with_reducible refine Fr.alloc ?_ _)) id)).mono ?_; rintro e w2 ⟨rfl, hm2, hb2⟩; have hf2 : Fr (fun _ => False) w1 w2 := ⟨hb2.os, hb2.tape, hb2.output, hb2.size, fun k hk _ => hb2.block k hk⟩; have h1' := hf2.cell h1 id; have h3' := hf2.cell h3 id; have h4' := hf2.cell h4 id)
  refine ⟨⟨?_, ?_, trivial⟩, ?_⟩
  · refine again_run0 rfl rfl rfl (fun K hK => ?_); go_wp2_with fail; exact trivial
  · refine again_run0 rfl rfl rfl (fun K hK => ?_); go_wp2_with fail; exact trivial
  -- 12: call
  refine wpY_one0 12 [16] rfl rfl (by kernel_rfl) (by kernel_rfl) (fun K hK => ?_)
  go_wp2_with (go_at_call 74; refine (mapsClone74 _ R.be _ ((HR1.out.hb.keep hf2 id).keep (S := fun _ => False) (by repeat' (first | with_reducible exact Fr.refl _ _ | with_reducible assumption | with_reducible refine Fr.drew ?_ | with_reducible refine Fr.alloc ?_ _)) id)).mono ?_; rintro e w3 ⟨rfl, hm3, hb3⟩; have hf3 : Fr (fun _ => False) w2 w3 := ⟨hb3.os, hb3.tape, hb3.output, hb3.size, fun k hk _ => hb3.block k hk⟩; have h4'' := hf3.cell h4' id; have hC3 := (HC.out.keep hf2 (fun _ _ => id)).keep hf3 (fun _ _ => id); have q1 := hC3.c1; have q2 := hC3.z 1; have q3 := hC3.z 3; have q4 := hC3.z 4; have q5 := hC3.c3; have q6 := hC3.c4; simp only [Raw.new] at q1 q2 q3 q4 q5 q6; have HC3 := Lib.hid hC3; clear hC3)
  refine ⟨⟨?_, trivial⟩, ?_⟩
  · refine again_run0 rfl rfl rfl (fun K hK => ?_); go_wp2_with fail; exact trivial
  -- 17: nilCheck
  refine wpY_pure0 17 rfl rfl (by kernel_rfl) (by kernel_rfl) (fun K hK => ?_); go_wp2_with fail
  -- 18: fieldAddr
  refine wpY_pure0 18 rfl rfl (by kernel_rfl) (by kernel_rfl) (fun K hK => ?_); go_wp2_with fail
  -- 19: store
  refine wpY_one0 19 [] rfl rfl (by kernel_rfl) (by kernel_rfl) (fun K hK => ?_)
  go_wp2_with fail
  refine ⟨trivial, ?_⟩
  -- 20: nilCheck
  refine wpY_pure0 20 rfl rfl (by kernel_rfl) (by kernel_rfl) (fun K hK => ?_); go_wp2_with fail
  -- 21: fieldAddr
  refine wpY_pure0 21 rfl rfl (by kernel_rfl) (by kernel_rfl) (fun K hK => ?_); go_wp2_with fail
  -- 22: store
  refine wpY_one0 22 [] rfl rfl (by kernel_rfl) (by kernel_rfl) (fun K hK => ?_)
  go_wp2_with fail
  refine ⟨trivial, ?_⟩
  -- 23: nilCheck
  refine wpY_pure0 23 rfl rfl (by kernel_rfl) (by kernel_rfl) (fun K hK => ?_); go_wp2_with fail
  -- 24: fieldAddr
  refine wpY_pure0 24 rfl rfl (by kernel_rfl) (by kernel_rfl) (fun K hK => ?_); go_wp2_with fail
  -- 25: store
  refine wpY_one0 25 [] rfl rfl (by kernel_rfl) (by kernel_rfl) (fun K hK => ?_)
  go_wp2_with fail
  refine ⟨trivial, ?_⟩
  refine wpY_done (by kernel_rfl) ?_ _
  obtain ⟨w4, e4, hM, hf4⟩ := left_mid (w := w) (dead := R.dead) HC3.out (by show w.heap.size + 5 ≤ w1.heap.size; omega) hm2 hf3 (Nat.le_refl _) hm3
  rw [show (w1.heap.size) = w1.drew.heap.size from rfl, ← e4]
  clear e4
  have hf24 : Fr (fun k => k = w.heap.size + 4) w1 w4 := (hf2.mono (S' := fun k => k = w.heap.size + 4) (fun _ _ => False.elim)).trans ((hf3.mono (S' := fun k => k = w.heap.size + 4) (fun _ _ => False.elim)).trans hf4 (fun _ _ => id)) (fun _ _ => id)
  replace h5 := hf24.cell h5 hd0
  replace k0 := hf24.cell k0 hg0
  replace k1 := hf24.cell k1 hg0
  replace k2 := hf24.cell k2 hg0
  replace k3 := hf24.cell k3 hg0
  replace k4 := hf24.cell k4 hg0
  replace k5 := hf24.cell k5 hg0
  replace k6 := hf24.cell k6 hg0
  replace k7 := hf24.cell k7 hg0
  replace hd := Nat.lt_of_lt_of_le hd hf24.size
  have hgF : g ≠ w1.drew.heap.size := by show g ≠ w1.heap.size; omega
  have hcF : w.heap.size + 4 ≠ w1.drew.heap.size := by show _ ≠ w1.heap.size; omega
  replace hg := Nat.lt_of_lt_of_le hg hf24.size
  have hF : w.heap.size + 5 ≤ w1.drew.heap.size := by show w.heap.size + 5 ≤ w1.heap.size; omega
  clear h1 h3 h4 h1' h3' h4' h4'' q1 q2 q3 q4 q5 q6 hb2 hb3 hm2 hm3
  generalize w1.drew.heap.size = F at *
  generalize w2.heap.size = G at *
  have r1 := hM.c1
  have r2 := lt_of_heap hM.hd
  have r3 := hM.c2
  have r4 := hM.z 2
  simp only [Raw.mid] at r1 r2 r3 r4
  have HM := Lib.hid hM
  have HF4 := Lib.hid hf24
  have HF := Lib.hid hF
  clear hM hf24 hf2 hf3 hf4 hF hg0 hd0 hcs
  go_wp2_with fail
  refine wp_loop_rounds 3 ?_
  rw [rounds_succ]
  go_wp2_with fail
  refine wp_drawn (by kernel_rfl) ?_
  -- 0: move
  refine wpY_pure0 0 rfl rfl (by kernel_rfl) (by kernel_rfl) (fun K hK => ?_); go_wp2_with fail
  -- 1: nilCheck
  refine wpY_pure0 1 rfl rfl (by kernel_rfl) (by kernel_rfl) (fun K hK => ?_); go_wp2_with fail
  -- 2: fieldAddr
  refine wpY_pure0 2 rfl rfl (by kernel_rfl) (by kernel_rfl) (fun K hK => ?_); go_wp2_with fail
  -- 4: fieldAddr
  refine wpY_pure0 4 rfl rfl (by kernel_rfl) (by kernel_rfl) (fun K hK => ?_); go_wp2_with fail
  -- 6: fieldAddr
  refine wpY_pure0 6 rfl rfl (by kernel_rfl) (by kernel_rfl) (fun K hK => ?_); go_wp2_with fail
  -- 3: load
  refine wpY_read0 3 rfl rfl (by kernel_rfl) rfl (fun K hK => ?_); go_wp2_with fail
  -- 5: load
  refine wpY_read0 5 rfl rfl (by kernel_rfl) rfl (fun K hK => ?_); go_wp2_with fail
  -- 7: load
  refine wpY_read0 7 rfl rfl (by kernel_rfl) rfl (fun K hK => ?_); go_wp2_with fail
  -- 8: mapUpdate
  refine wpY_one0 8 [] rfl rfl (by kernel_rfl) (by kernel_rfl) (fun K hK => ?_)
  refine op_update (.tmp 80) (.tmp 82) (.tmp 84) 83 rfl Try.underlying83 Try.underlying3 rfl i1 rfl (.slice b1 n1 c1) rfl (HM.out.hf.keep (S := fun _ => False) (by repeat' (first | with_reducible exact Fr.refl _ _ | with_reducible assumption | with_reducible refine Fr.drew ?_ | with_reducible refine Fr.alloc ?_ _)) id) ?_; intro w6 hm6 hf6; replace hf6 := hf6.trans' (a := w4) (by repeat' (first | with_reducible exact Fr.refl _ _ | with_reducible assumption | with_reducible refine Fr.drew ?_ | with_reducible refine Fr.alloc ?_ _)); simp only [Act.put, List.setIfInBounds_toArray, List.set_cons_zero, List.set_cons_succ]; refine hK _ _ ?_
  refine ⟨trivial, ?_⟩
  refine wpY_done (by kernel_rfl) ?_ _
  replace k4 := hf6.cell k4 hgF
  replace k5 := hf6.cell k5 hgF
  replace k6 := hf6.cell k6 hgF
  replace k7 := hf6.cell k7 hgF
  replace r1 := hf6.cell r1 hcF
  replace hd := Nat.lt_of_lt_of_le hd hf6.size
  replace hg := Nat.lt_of_lt_of_le hg hf6.size
  replace r2 := Nat.lt_of_lt_of_le r2 hf6.size
  replace r3 := hf6.cell r3 hcF
  have r4' := frozen_in (hf6.heap HM.out.hd hcF) 2
  clear k0 k1 k2 k3 r4
  go_wp2_with fail
  rw [rounds_succ]
  go_wp2_with fail
  rw [rounds_succ]
  go_upto_region 12 with fail
  have hf7 : Fr (fun _ => False) w6 (w6.alloc (Obj.cells #[Value.int IntKind.i64 i2, Value.slice b2 n2 c2, Value.bool false, Value.int IntKind.i64 m2] 94)) := (Fr.refl _ w6).alloc _
  generalize (w6.alloc (Obj.cells #[Value.int IntKind.i64 i2, Value.slice b2 n2 c2, Value.bool false, Value.int IntKind.i64 m2] 94)) = w7 at *
  replace r1 := hf7.cell r1 id
  replace r2 := Nat.lt_of_lt_of_le r2 hf7.size
  replace r3 := hf7.cell r3 id
  clear r4' k4 k5 k6 k7 hd hg
  go_wp2_with (go_at_call 73; refine (mapsClone73 _ _ _ (hm6.keep hf7 id)).mono ?_; rintro e w8 ⟨rfl, hm8, hb8⟩; have hf8 : Fr (fun _ => False) w7 w8 := ⟨hb8.os, hb8.tape, hb8.output, hb8.size, fun k hk _ => hb8.block k hk⟩; have r3' := hf8.cell r3 id; have r4' : w8.frozen? ⟨w.heap.size + 4, 2, none⟩ = false := frozen_in (hf8.heap (hf7.heap (hf6.heap HM.out.hd hcF) id) id) 2)
  go_returns
  exact left_last R i1 (.slice b1 n1 c1) HF1.out HF4.out HM.out HF.out hm6 hf6 hf7 hm8 hf8

end Go.Proofs.Ytbakgaogehofbaa
