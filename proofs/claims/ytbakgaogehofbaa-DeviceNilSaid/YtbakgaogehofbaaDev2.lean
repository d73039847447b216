/-
Walks of package device: what writes.
-/
import Derived.Test.YtbakgaogehofbaaDev1
namespace Go.Proofs.Ytbakgaogehofbaa
open Go.RowKit Go.Cof
set_option maxRecDepth 100000
set_option linter.unusedSimpArgs false

def Raw.heal (R : Raw) (i : Int) : Raw := { R with be := kdel R.be i }
def Raw.spoil (R : Raw) (i : Int) : Raw := { R with be := kput R.be i (.bool true) }
def Raw.kill (R : Raw) : Raw := { R with dead := true }

/-! ### Write -/
theorem write_nil (i : Int) (v : Value) (w : World) : Calls Try.prog 21 #[.pointer none, .int .i64 i, v] w fun e w' => e = .returned (.int .i64 1) ∧ w = w' := by
  go_enter Try.func21, Try.ntmps21
  go_wp2_with (go_at_call 56; refine (fault_nil _ _).mono ?_; rintro e w' ⟨rfl, rfl⟩)
  go_returns
  exact ⟨rfl, rfl⟩
theorem write_dead (R : Raw) (i : Int) (v : Value) (w : World) (hR : RawAt w R) (hd : R.dead = true) : Calls Try.prog 21 #[.pointer (some ⟨R.d, 0, none⟩), .int .i64 i, v] w fun e w' => e = .returned (.int .i64 73) ∧ w = w' := by
  have H := Lib.hid hd
  clear hd
  go_enter Try.func21, Try.ntmps21
  go_wp2_with (go_at_call 56; refine (fault_dead R _ _ hR H.out).mono ?_; rintro e w' ⟨rfl, rfl⟩)
  go_returns
  exact ⟨rfl, rfl⟩
theorem write_range (R : Raw) (i : Int) (v : Value) (w : World) (hR : RawAt w R) (hd : R.dead = false) (hi : ¬ (0 ≤ i ∧ i < R.size)) : Calls Try.prog 21 #[.pointer (some ⟨R.d, 0, none⟩), .int .i64 i, v] w fun e w' => e = .returned (.int .i64 71) ∧ w = w' := by
  have H := Lib.hid hd
  clear hd
  go_enter Try.func21, Try.ntmps21
  go_wp2_with (go_at_call 56; refine (fault_range R _ _ hR H.out hi).mono ?_; rintro e w' ⟨rfl, rfl⟩)
  go_returns
  exact ⟨rfl, rfl⟩
theorem write_long (R : Raw) (i : Int) (a : Option Addr) (n c : Nat) (w : World) (hR : RawAt w R) (hd : R.dead = false) (hi : 0 ≤ i) (hn : i < R.size) (hl : 64 < n) : Calls Try.prog 21 #[.pointer (some ⟨R.d, 0, none⟩), .int .i64 i, .slice a n c] w fun e w' => e = .returned (.int .i64 1) ∧ w = w' := by
  have H := Lib.hid hd
  clear hd
  go_enter Try.func21, Try.ntmps21
  go_wp2_with (go_at_call 56; refine (fault_ok R _ _ hR H.out hi hn).mono ?_; rintro e w' ⟨rfl, rfl⟩)
  go_returns
  exact ⟨rfl, rfl⟩

def WritePost (R : Raw) (i : Int) (l : List UInt8) (w w' : World) : Prop :=
  ∃ lv v, RawAt w' ((R.put i v false lv).heal i) ∧ Sl w' 5 1 v l.length (bv l) ∧ (∀ k, v.ownBlock = some k → w.heap.size ≤ k ∧ ¬ ((R.put i v false lv).heal i).M k) ∧ (∀ k, lv.ownBlock = some k → R.lv.ownBlock = some k ∨ w.heap.size ≤ k) ∧ Fr R.M w w'

theorem heal_at {R : Raw} {w w' : World} {i : Int} (hR : RawAt w R) (h : MapL w' R.b (kdel R.be i)) (hf : Fr (fun k => k = R.b) w w') : RawAt w' (R.heal i) := by
  obtain ⟨hd, hf1, hn, hb, hc, hlg, hs, nd, ndl, nds⟩ := hR
  have nd' := nd
  simp only [List.nodup_cons, List.mem_cons, List.not_mem_nil, or_false, not_or, not_false_eq_true, List.nodup_nil, and_true] at nd'
  obtain ⟨⟨n1, n2, n3, n4⟩, ⟨n5, n6, n7⟩, ⟨n8, n9⟩, n10⟩ := nd'
  exact ⟨hf.heap hd n3, hf1.keep hf n6, hn.keep hf n8, h, hf.heap hc (fun e => n10 e.symm), hlg.keep hf (fun k hk e => ndl k hk (by simp [e])), hs.keep hf (fun k hk e => (nds k hk).1 (by simp [e])), nd, ndl, nds⟩

theorem spoil_at {R : Raw} {w w' : World} {i : Int} (hR : RawAt w R) (h : MapL w' R.b (kput R.be i (.bool true))) (hf : Fr (fun k => k = R.b) w w') : RawAt w' (R.spoil i) := by
  obtain ⟨hd, hf1, hn, hb, hc, hlg, hs, nd, ndl, nds⟩ := hR
  have nd' := nd
  simp only [List.nodup_cons, List.mem_cons, List.not_mem_nil, or_false, not_or, not_false_eq_true, List.nodup_nil, and_true] at nd'
  obtain ⟨⟨n1, n2, n3, n4⟩, ⟨n5, n6, n7⟩, ⟨n8, n9⟩, n10⟩ := nd'
  exact ⟨hf.heap hd n3, hf1.keep hf n6, hn.keep hf n8, h, hf.heap hc (fun e => n10 e.symm), hlg.keep hf (fun k hk e => ndl k hk (by simp [e])), hs.keep hf (fun k hk e => (nds k hk).1 (by simp [e])), nd, ndl, nds⟩

theorem write_post {R : Raw} {w w1 w2 : World} {i : Int} {l : List UInt8} (h : PutPost R i l false w w1) (hm : ∀ (lv v), RawAt w1 (R.put i v false lv) → MapL w2 R.b (kdel R.be i)) (hf : Fr (fun k => k = R.b) w1 w2) : WritePost R i l w w2 := by
  obtain ⟨lv, v, h1, h2, h3, h4, h5⟩ := h
  refine ⟨lv, v, heal_at h1 (hm lv v h1) hf, h2.keep hf (fun k hk e => (h3 k hk).2 (by simp [Raw.M, Raw.put, e])), h3, h4, h5.trans hf (fun j _ e => by simp [Raw.M, e])⟩

set_option maxHeartbeats 800000 in
theorem write_ok (R : Raw) (i : Int) (v : Value) (l : List UInt8) (w : World) (hR : RawAt w R) (hd : R.dead = false) (hi : 0 ≤ i) (hn : i < R.size) (hv : BV w v l) (hl : l.length ≤ 64) (ha : ∀ k, v.ownBlock = some k → ¬ R.M k) (hlog : R.lg.length < 1000000) :
    Calls Try.prog 21 #[.pointer (some ⟨R.d, 0, none⟩), .int .i64 i, v] w fun e w' => e = .returned (.int .i64 0) ∧ WritePost R i l w w' := by
  have H := Lib.hid hd
  have H2 := Lib.hid ha
  obtain ⟨a, c, hv0, _⟩ := id hv
  subst hv0
  have hl' : (l.length : Int) ≤ 64 := by omega
  clear hd ha
  go_enter Try.func21, Try.ntmps21
  go_wp2_with (first
    | (go_at_call 56; refine (fault_ok R _ _ hR H.out hi hn).mono ?_; rintro e w' ⟨rfl, rfl⟩)
    | (go_at_call 57; refine (put_any R _ _ l _ _ hR hv hl H2.out hlog).mono ?_; rintro e w1 ⟨rfl, hp⟩; obtain ⟨lv, v1, p1, p2⟩ := id hp; have q3 := p1.c3; simp only [Raw.put] at q3)
    | (with_reducible refine wpList_delete rfl (.tmp 24) (.tmp 25) 84 3 rfl Try.underlying84 Try.underlying3 rfl i rfl p1.hb ?_; intro w2 hm hf))
  go_returns
  exact ⟨rfl, write_post hp (fun _ _ _ => hm) hf⟩

/-! ### Spoil, Kill, Tamper -/
theorem spoil_nil (i : Int) (w : World) : Calls Try.prog 17 #[.pointer none, .int .i64 i] w fun e w' => e = .returned (.tuple #[]) ∧ w = w' := by
  go_enter Try.func17, Try.ntmps17
  go_wp2_with (go_at_call 56; refine (fault_nil _ _).mono ?_; rintro e w' ⟨rfl, rfl⟩)
  go_end0
  exact ⟨rfl, rfl⟩
theorem kill_nil (w : World) : Calls Try.prog 18 #[.pointer none] w fun e w' => e = .returned (.tuple #[]) ∧ w = w' := by
  go_enter Try.func18, Try.ntmps18
  go_wp2
  go_end0
  exact ⟨rfl, rfl⟩
theorem tamper_nil (i : Int) (a : Option Addr) (n c : Nat) (w : World) : Calls Try.prog 19 #[.pointer none, .int .i64 i, .slice a n c] w fun e w' => e = .returned (.tuple #[]) ∧ w = w' := by
  go_enter Try.func19, Try.ntmps19
  go_wp2_with (go_at_call 56; refine (fault_nil _ _).mono ?_; rintro e w' ⟨rfl, rfl⟩)
  go_end0
  exact ⟨rfl, rfl⟩

/-! ### Sync -/
theorem sync_nil (w : World) : Calls Try.prog 23 #[.pointer none] w fun e w' => e = .returned (.int .i64 1) ∧ w = w' := by
  go_enter Try.func23, Try.ntmps23
  go_wp2_with (go_at_call 56; refine (fault_nil _ _).mono ?_; rintro e w' ⟨rfl, rfl⟩)
  go_returns
  exact ⟨rfl, rfl⟩

def Raw.sync (R : Raw) (sv : Value) : Raw := { R with sy := R.sy ++ [((R.lg.length : Int), R.clock)], sv := sv }

def SyncPost (R : Raw) (w w' : World) : Prop :=
  ∃ sv, RawAt w' (R.sync sv) ∧ (∀ k, sv.ownBlock = some k → R.sv.ownBlock = some k ∨ w.heap.size ≤ k) ∧ Fr R.M w w'

theorem sync_post {R : Raw} {w w4 : World} {va : Option Addr} {vcap : Nat} {o : Obj} (hR : RawAt w R)
    (hap : Appended ((w.alloc o).drew) w4 92 2 R.sv (.slice va (R.sy.length + 1) vcap) (R.sy.length + 1) (syncCells R.sy ++ [.int .i64 R.lg.length, .int .i64 R.clock])) :
    SyncPost R w (w4.setCell ⟨R.d, 6, none⟩ (.slice va (R.sy.length + 1) vcap)) := by
  obtain ⟨d, f, nn, b, c, lv, sv, fe, ne, be, lg, sy, size, dead, clock⟩ := R
  obtain ⟨hd, hf, hn, hb, hc, hlg, hs, nd, ndl, nds⟩ := hR
  simp only at *
  have h2 : Fr (fun k => sv.ownBlock = some k ∨ k = d) w (w4.setCell ⟨d, 6, none⟩ (.slice va (sy.length + 1) vcap)) :=
    ((((Fr.refl _ w).alloc o).drew).trans hap.fr (fun j _ e => .inl e)).setB (.inr rfl) 6 _
  have nd' := nd
  simp only [List.nodup_cons, List.mem_cons, List.not_mem_nil, or_false, not_or, not_false_eq_true, List.nodup_nil, and_true] at nd'
  obtain ⟨⟨n1, n2, n3, n4⟩, ⟨n5, n6, n7⟩, ⟨n8, n9⟩, n10⟩ := nd'
  have lds : ∀ k, sv.ownBlock = some k → (k ≠ d ∧ k ≠ f ∧ k ≠ nn ∧ k ≠ b ∧ k ≠ c) ∧ lv.ownBlock ≠ some k := fun k hk => by
    have := nds k hk
    simpa only [List.mem_cons, List.not_mem_nil, or_false, not_or] using this
  have ldl : ∀ k, lv.ownBlock = some k → k ≠ d := fun k hk => by
    have := ndl k hk
    simp only [List.mem_cons, List.not_mem_nil, or_false, not_or] at this
    exact this.1
  have lt : ∀ k, k ∈ [d, f, nn, b, c] → k < w.heap.size := fun k hk => by
    simp only [List.mem_cons, List.not_mem_nil, or_false] at hk
    rcases hk with rfl | rfl | rfl | rfl | rfl
    · exact lt_of_heap hd
    · exact hf.lt
    · exact hn.lt
    · exact hb.lt
    · exact lt_of_heap hc
  have new : ∀ k, (Value.slice va (sy.length + 1) vcap).ownBlock = some k → sv.ownBlock = some k ∨ w.heap.size ≤ k := fun k hk => by
    rcases hap.own k hk with e | e
    · exact .inl e
    · have : (w.alloc o).drew.heap.size = w.heap.size + 1 := by simp
      exact .inr (by omega)
  have hd5 : (w4.setCell ⟨d, 6, none⟩ (.slice va (sy.length + 1) vcap)).heap[d]? = some (.cells #[.int .i64 size, .map (some f), .map (some nn), .map (some b), .bool dead, lv, .slice va (sy.length + 1) vcap, .pointer (some ⟨c, 0, none⟩)] 89 (0, 0)) :=
    heap_set _ (hap.fr.heap (heap_old o _ hd) (fun e => (lds d e).1.1 rfl))
  have nvd : ∀ k, (Value.slice va (sy.length + 1) vcap).ownBlock = some k → k ≠ d := fun k hk e => by
    subst e
    rcases new k hk with e | e
    · exact (lds k e).1.1 rfl
    · have := lt k (by simp)
      omega
  refine ⟨_, ⟨hd5, hf.keep h2 ?_, hn.keep h2 ?_, hb.keep h2 ?_, h2.heap hc ?_, hlg.keep h2 ?_, ?_, nd, ndl, ?_⟩, new, h2.mono fun j _ e => ?_⟩
  · rintro (e | e)
    · exact (lds f e).1.2.1 rfl
    · exact n1 e.symm
  · rintro (e | e)
    · exact (lds nn e).1.2.2.1 rfl
    · exact n2 e.symm
  · rintro (e | e)
    · exact (lds b e).1.2.2.2.1 rfl
    · exact n3 e.symm
  · rintro (e | e)
    · exact (lds c e).1.2.2.2.2 rfl
    · exact n4 e.symm
  · rintro k hk (e | e)
    · exact (lds k e).2 hk
    · exact ldl k hk e
  · simp only [Raw.sync, List.length_append, List.length_cons, List.length_nil, Nat.zero_add]
    have := (hap.sl.keep ((Fr.refl (fun k => k = d) w4).setB rfl 6 (.slice va (sy.length + 1) vcap)) nvd)
    simpa [syncCells] using this
  · intro k hk
    rcases new k hk with e | e
    · exact nds k e
    · refine ⟨fun hm => ?_, fun e' => ?_⟩
      · have := lt k hm
        omega
      · have := hlg.lt k e'
        omega
  · simp only [Raw.M]
    rcases e with e | e
    · simp [e]
    · simp [e]

set_option maxHeartbeats 8000000 in
theorem sync_ok (R : Raw) (w : World) (hR : RawAt w R) (hd : R.dead = false) (hz : 0 < R.size) (hsy : R.sy.length < 1000000) :
    Calls Try.prog 23 #[.pointer (some ⟨R.d, 0, none⟩)] w fun e w' => e = .returned (.int .i64 0) ∧ SyncPost R w w' := by
  obtain ⟨i0, hi, hz0, hz1, hz2⟩ := info_parts Try.info92
  have H := Lib.hid hd
  have c5 := hR.c5
  have c6 := hR.c6
  have c7 := hR.c7
  have cc := hR.cc
  have ld := lt_of_heap hR.hd
  have lcc := lt_of_heap hR.hc
  obtain ⟨la, lc, hlv⟩ := hR.hl.form
  rw [hlv] at c5
  have HR := Lib.hid hR
  have H1 : Hid (∀ u ∈ [Value.int .i64 R.lg.length, .int .i64 R.clock], u.oneCell' = true) := Lib.hid (by simp [Value.oneCell'])
  have hnd : Hid (R.sv.ownBlock ≠ some R.d) := Lib.hid (fun e => (hR.nds _ e).1 (by simp))
  clear hR hlv hd
  go_enter Try.func23, Try.ntmps23
  go_wp2_with (go_at_call 56; refine (fault_ok R _ _ HR.out H.out (by decide) hz).mono ?_; rintro e w' ⟨rfl, rfl⟩)
  refine wp_drawn (by kernel_rfl) ?_
  -- 0: move
  refine wpY_pure0 0 rfl rfl (by kernel_rfl) (by kernel_rfl) (fun K hK => ?_); go_wp2_with fail
  -- 1: move
  refine wpY_pure0 1 rfl rfl (by kernel_rfl) (by kernel_rfl) (fun K hK => ?_); go_wp2_with fail
  -- 2: nilCheck
  refine wpY_pure0 2 rfl rfl (by kernel_rfl) (by kernel_rfl) (fun K hK => ?_); go_wp2_with fail
  -- 3: fieldAddr
  refine wpY_pure0 3 rfl rfl (by kernel_rfl) (by kernel_rfl) (fun K hK => ?_); go_wp2_with fail
  -- 5: move
  refine wpY_pure0 5 rfl rfl (by kernel_rfl) (by kernel_rfl) (fun K hK => ?_); go_wp2_with fail
  -- 6: nilCheck
  refine wpY_pure0 6 rfl rfl (by kernel_rfl) (by kernel_rfl) (fun K hK => ?_); go_wp2_with fail
  -- 7: fieldAddr
  refine wpY_pure0 7 rfl rfl (by kernel_rfl) (by kernel_rfl) (fun K hK => ?_); go_wp2_with fail
  -- 10: move
  refine wpY_pure0 10 rfl rfl (by kernel_rfl) (by kernel_rfl) (fun K hK => ?_); go_wp2_with fail
  -- 11: nilCheck
  refine wpY_pure0 11 rfl rfl (by kernel_rfl) (by kernel_rfl) (fun K hK => ?_); go_wp2_with fail
  -- 12: fieldAddr
  refine wpY_pure0 12 rfl rfl (by kernel_rfl) (by kernel_rfl) (fun K hK => ?_); go_wp2_with fail
  -- 4: load
  refine wpY_read0 4 rfl rfl (by kernel_rfl) rfl (fun K hK => ?_); go_wp2_with fail
  -- 8: load
  refine wpY_read0 8 rfl rfl (by kernel_rfl) rfl (fun K hK => ?_); go_wp2_with fail
  -- 9: call
  refine wpY_pure0 9 rfl rfl (by kernel_rfl) (by kernel_rfl) (fun K hK => ?_); go_wp2_with fail
  -- 13: load
  refine wpY_read0 13 rfl rfl (by kernel_rfl) rfl (fun K hK => ?_); go_wp2_with fail
  -- 14: nilCheck
  refine wpY_pure0 14 rfl rfl (by kernel_rfl) (by kernel_rfl) (fun K hK => ?_); go_wp2_with fail
  -- 15: load
  refine wpY_read0 15 rfl rfl (by kernel_rfl) rfl (fun K hK => ?_); go_wp2_with fail
  -- 16: build
  refine wpY_pure0 16 rfl rfl (by kernel_rfl) (by kernel_rfl) (fun K hK => ?_); go_wp2_with fail
  -- 17: buildSlice
  refine wpY_one0 17 [4] rfl rfl (by kernel_rfl) (by kernel_rfl) (fun K hK => ?_)
  go_wp2_with fail
  refine ⟨⟨?_, trivial⟩, ?_⟩
  · refine again_run0 rfl rfl rfl (fun K hK => ?_); go_wp2_with fail; exact trivial
  -- 18: call
  refine wpY_one0 18 [] rfl rfl (by kernel_rfl) (by kernel_rfl) (fun K hK => ?_)
  refine op_append (.tmp 12) (.tmp 25) 86 86 rfl 92 i0 _ 2 16 Try.underlying86 hi hz0 hz1 hz2 rfl (by decide) R.sv R.sy.length (syncCells R.sy) rfl (HR.out.hs.keep (S := fun _ => False) (by repeat' (first | with_reducible exact Fr.refl _ _ | with_reducible assumption | with_reducible refine Fr.drew ?_ | with_reducible refine Fr.alloc ?_ _)) (fun _ _ => id)) (.slice (some ⟨w.heap.size, 0, none⟩) 1 1) 1 [.int .i64 R.lg.length, .int .i64 R.clock] rfl ((Rd.block (xs := [.int .i64 R.lg.length, .int .i64 R.clock]) (heap_new w _) rfl).drew.src Try.underlying86 H1.out) (by unfold maxLen; omega) (by omega) ?_; intro v4 w4 hap; obtain ⟨va, vcap, rfl⟩ := hap.sl.form; have hd4 := hap.fr.heap (heap_old _ _ HR.out.hd) hnd.out; have m1 : w4.cell? ⟨R.d, 6, none⟩ = some R.sv := cell_of hd4; have m2 : w4.frozen? ⟨R.d, 6, none⟩ = false := frozen_in hd4 6; simp only [Act.put, List.setIfInBounds_toArray, List.set_cons_zero, List.set_cons_succ]; refine hK _ _ ?_
  refine ⟨trivial, ?_⟩
  -- 19: nilCheck
  refine wpY_pure0 19 rfl rfl (by kernel_rfl) (by kernel_rfl) (fun K hK => ?_); go_wp2_with fail
  -- 20: fieldAddr
  refine wpY_pure0 20 rfl rfl (by kernel_rfl) (by kernel_rfl) (fun K hK => ?_); go_wp2_with fail
  -- 21: store
  refine wpY_one0 21 [] rfl rfl (by kernel_rfl) (by kernel_rfl) (fun K hK => ?_)
  go_wp2_with fail
  refine ⟨trivial, ?_⟩
  refine wpY_done (by kernel_rfl) ?_ _
  go_wp2_with fail
  go_returns
  exact ⟨rfl, sync_post HR.out hap⟩

end Go.Proofs.Ytbakgaogehofbaa
