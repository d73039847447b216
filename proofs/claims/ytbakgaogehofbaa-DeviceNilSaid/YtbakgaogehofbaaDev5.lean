/-
cofferdamlaw07: alive, and the law of no disk.
-/
import Derived.Lib.SlBytesConst
import Derived.Test.YtbakgaogehofbaaDev4
namespace Go.Proofs.Ytbakgaogehofbaa
open Go.RowKit Go.Cof
set_option maxRecDepth 100000
set_option linter.unusedSimpArgs false

set_option maxHeartbeats 4000000 in
theorem cut_two (R : Raw) (m i1 i2 m1 m2 : Int) (b1 b2 : Option Addr) (n1 c1 n2 c2 : Nat) (w : World) (hR : RawAt w R) (hz : 1 ≤ R.size) (hz2 : R.size ≤ 2048) (hs : R.sy = [(1, m)]) (hl : R.lg = [(i1, .slice b1 n1 c1, false, m1), (i2, .slice b2 n2 c2, false, m2)]) :
    Calls Try.prog 28 #[.pointer (some ⟨R.d, 0, none⟩), .slice none 0 0] w (LeftPost R i1 (.slice b1 n1 c1) w) := by
  obtain ⟨la, lc, hlv⟩ := hR.hl.form
  have h5 := hR.c5
  rw [hlv, hl] at h5
  have hd := lt_of_heap hR.hd
  simp only [List.length_cons, List.length_nil, Nat.zero_add, Nat.add_zero, Nat.reduceAdd] at h5
  have HR := Lib.hid hR
  have HS := Lib.hid hs
  have HL := Lib.hid hl
  clear hR hl hs hlv
  go_enter Try.func28, Try.ntmps28
  go_wp2
  refine wp_drawn (by kernel_rfl) ?_
  -- 0: move
  refine wpY_pure0 0 rfl rfl (by kernel_rfl) (by kernel_rfl) (fun K hK => ?_); go_wp2_with fail
  -- 1: move
  refine wpY_pure0 1 rfl rfl (by kernel_rfl) (by kernel_rfl) (fun K hK => ?_); go_wp2_with fail
  -- 3: move
  refine wpY_pure0 3 rfl rfl (by kernel_rfl) (by kernel_rfl) (fun K hK => ?_); go_wp2_with fail
  -- 4: nilCheck
  refine wpY_pure0 4 rfl rfl (by kernel_rfl) (by kernel_rfl) (fun K hK => ?_); go_wp2_with fail
  -- 5: fieldAddr
  refine wpY_pure0 5 rfl rfl (by kernel_rfl) (by kernel_rfl) (fun K hK => ?_); go_wp2_with fail
  -- 8: move
  refine wpY_pure0 8 rfl rfl (by kernel_rfl) (by kernel_rfl) (fun K hK => ?_); go_wp2_with fail
  -- 6: load
  refine wpY_read0 6 rfl rfl (by kernel_rfl) rfl (fun K hK => ?_); go_wp2_with fail
  -- 7: call
  refine wpY_pure0 7 rfl rfl (by kernel_rfl) (by kernel_rfl) (fun K hK => ?_); go_wp2_with fail
  -- 2: call
  refine wpY_one0 2 [6] rfl rfl (by kernel_rfl) (by kernel_rfl) (fun K hK => ?_)
  go_wp2_with (go_at_call 58; refine (safe_one R 1 m _ (HR.out.keep (S := fun _ => False) (by repeat' (first | with_reducible exact Fr.refl _ _ | with_reducible assumption | with_reducible refine Fr.drew ?_ | with_reducible refine Fr.alloc ?_ _)) (fun _ _ => id)) HS.out).mono ?_; rintro e w1 ⟨rfl, hf0⟩; have hf := hf0.trans' (a := w) (by repeat' (first | with_reducible exact Fr.refl _ _ | with_reducible assumption | with_reducible refine Fr.drew ?_ | with_reducible refine Fr.alloc ?_ _)); have h5' := hf.cell h5 id; have hd' := Nat.lt_of_lt_of_le hd hf.size)
  refine ⟨⟨?_, trivial⟩, ?_⟩
  · refine again_run0 rfl rfl rfl (fun K hK => ?_); go_wp2_with fail; exact trivial
  -- 9: call
  refine wpY_one0 9 [] rfl rfl (by kernel_rfl) (by kernel_rfl) (fun K hK => ?_)
  go_wp2_with (go_at_call 59; refine (left_two R i1 i2 m1 m2 b1 b2 n1 c1 n2 c2 _ (HR.out.keep hf (fun _ _ => id)) hz hz2 HL.out).mono ?_; rintro e w2 ⟨C, rfl, p1, p2, p3, p4, p5, p6⟩; replace p6 := p6.trans' hf)
  refine ⟨trivial, ?_⟩
  -- 10: assign
  refine wpY_pure0 10 rfl rfl (by kernel_rfl) (by kernel_rfl) (fun K hK => ?_); go_wp2_with fail
  refine wpY_done (by kernel_rfl) ?_ _
  go_wp2
  go_returns
  exact ⟨C, rfl, p1, p2, p3, p4, p5, p6⟩

theorem RawAt.m_lt {w : World} {R : Raw} (h : RawAt w R) {k : Nat} (hk : R.M k) : k < w.heap.size := by
  rcases hk with e | e | e | e | e | e | e
  · subst e; exact lt_of_heap h.hd
  · subst e; exact h.hf.lt
  · subst e; exact h.hn.lt
  · subst e; exact h.hb.lt
  · subst e; exact lt_of_heap h.hc
  · exact h.hl.lt k e
  · exact h.hs.lt k e

/-- The bytes that stand in a literal. -/
theorem lit_bv (w : World) (l : List UInt8) (z : Nat × Nat) : BV (w.alloc (.cells (bv l).toArray 5 z)) (.slice (some ⟨w.heap.size, 0, none⟩) l.length l.length) l :=
  Rd.block (heap_new w _) (by simp [bv])
theorem lit_own {w : World} {R : Raw} (h : RawAt w R) (n c : Nat) : ∀ k, (Value.slice (some ⟨w.heap.size, 0, none⟩) n c).ownBlock = some k → ¬ R.M k := by
  intro k hk e
  have := h.m_lt e
  simp only [Value.ownBlock, Option.map_some, Option.some.injEq] at hk
  omega

theorem Raw.m_new {B : Nat} {n : Int} {k : Nat} (h : (Raw.new B n).M k) : B ≤ k := by
  simp only [Raw.M, Raw.new, Value.ownBlock, Option.map_none, reduceCtorEq, or_false] at h
  omega
theorem Raw.m_heal {R : Raw} {i : Int} {k : Nat} (h : (R.heal i).M k) : R.M k := h
theorem Raw.m_put {R : Raw} {i : Int} {v lv : Value} {s : Bool} {k : Nat} (h : ((R.put i v s lv).heal i).M k) : R.M k ∨ lv.ownBlock = some k := by
  simp only [Raw.M, Raw.put, Raw.heal] at *
  rcases h with h | h | h | h | h | h | h <;> simp [h]
theorem Raw.m_sync {R : Raw} {sv : Value} {k : Nat} (h : (R.sync sv).M k) : R.M k ∨ sv.ownBlock = some k := by
  simp only [Raw.M, Raw.sync] at *
  rcases h with h | h | h | h | h | h | h <;> simp [h]
theorem Raw.m_lv {R : Raw} {k : Nat} (h : R.lv.ownBlock = some k) : R.M k := by simp [Raw.M, h]
theorem Raw.m_sv {R : Raw} {k : Nat} (h : R.sv.ownBlock = some k) : R.M k := by simp [Raw.M, h]

/-- A device of four sectors that was written "ab", synced, and written "cd". -/
def Lives (w : World) (R : Raw) (v1 v2 : Value) (w' : World) : Prop :=
  RawAt w' R ∧ (∃ m, R.sy = [(1, m)]) ∧ (∃ m1 m2, R.lg = [(1, v1, false, m1), (1, v2, false, m2)]) ∧ R.size = 4 ∧ R.dead = false ∧ R.be = [] ∧ R.fe = [] ∧ kget R.ne 1 = some v2 ∧
    Sl w' 5 1 v1 2 (bv [97, 98]) ∧ Sl w' 5 1 v2 2 (bv [99, 100]) ∧ Fr (fun k => w.heap.size ≤ k) w w' ∧ R.d = w.heap.size + 4

theorem lives {w w1 w1' w2 w3 w3' w4 : World} {lv sv lv2 v1 v2 : Value} (hb1 : Below w.heap.size w w1) (h1 : Fr (fun _ => False) w1 w1') 
    (hS1 : Sl w2 5 1 v1 2 (bv [97, 98])) (hv1 : ∀ k, v1.ownBlock = some k → w1'.heap.size ≤ k ∧ ¬ (((Raw.new w.heap.size 4).put 1 v1 false lv).heal 1).M k) (hlv : ∀ k, lv.ownBlock = some k → (Raw.new w.heap.size 4).lv.ownBlock = some k ∨ w1'.heap.size ≤ k) (hf2 : Fr (Raw.new w.heap.size 4).M w1' w2)
    (hsv : ∀ k, sv.ownBlock = some k → (((Raw.new w.heap.size 4).put 1 v1 false lv).heal 1).sv.ownBlock = some k ∨ w2.heap.size ≤ k) (hf3 : Fr (((Raw.new w.heap.size 4).put 1 v1 false lv).heal 1).M w2 w3) (h3 : Fr (fun _ => False) w3 w3')
    (hR4 : RawAt w4 (((((((Raw.new w.heap.size 4).put 1 v1 false lv).heal 1).sync sv).put 1 v2 false lv2).heal 1))) (hS2 : Sl w4 5 1 v2 2 (bv [99, 100]))
    (hf4 : Fr ((((Raw.new w.heap.size 4).put 1 v1 false lv).heal 1).sync sv).M w3' w4) :
    Lives w (((((((Raw.new w.heap.size 4).put 1 v1 false lv).heal 1).sync sv).put 1 v2 false lv2).heal 1)) v1 v2 w4 := by
  have s1 := hb1.size
  have s1' := h1.size
  have s2 := hf2.size
  have s3 := hf3.size
  have m2 : ∀ k, (((Raw.new w.heap.size 4).put 1 v1 false lv).heal 1).M k → w.heap.size ≤ k := fun k hk => by
    rcases Raw.m_put hk with e | e
    · exact Raw.m_new e
    · rcases hlv k e with e | e
      · exact Raw.m_new (Raw.m_lv e)
      · omega
  have m3 : ∀ k, ((((Raw.new w.heap.size 4).put 1 v1 false lv).heal 1).sync sv).M k → w.heap.size ≤ k := fun k hk => by
    rcases Raw.m_sync hk with e | e
    · exact m2 k e
    · rcases hsv k e with e | e
      · exact m2 k (Raw.m_sv e)
      · omega
  have hS1' : Sl w4 5 1 v1 2 (bv [97, 98]) := by
    refine (((hS1.keep hf3 (fun k hk => (hv1 k hk).2)).keep h3 (fun _ _ => id)).keep hf4 (fun k hk e => ?_))
    rcases Raw.m_sync e with e | e
    · exact (hv1 k hk).2 e
    · rcases hsv k e with e | e
      · exact (hv1 k hk).2 (Raw.m_sv e)
      · have := hS1.lt k hk
        omega
  refine ⟨hR4, ⟨_, rfl⟩, ⟨_, _, rfl⟩, rfl, rfl, rfl, rfl, rfl, hS1', hS2, ?_, rfl⟩
  have f1 : Fr (fun k => w.heap.size ≤ k) w w1 := Fr.of_below hb1
  have f2 := f1.trans h1 (fun _ _ => False.elim)
  have f3 := f2.trans hf2 (fun j _ e => Raw.m_new e)
  have f4 := f3.trans hf3 (fun j _ e => m2 j e)
  have f5 := f4.trans h3 (fun _ _ => False.elim)
  exact f5.trans hf4 (fun j _ e => m3 j e)

theorem _root_.Go.Cof.Fr.of_below0 {w w' : World} (h : Below w.heap.size w w') : Fr (fun _ => False) w w' := ⟨h.os, h.tape, h.output, h.size, fun k hk _ => h.block k hk⟩
theorem _root_.Go.Cof.Sl.cell0 {w : World} {e : TypeId} {sz n cap g : Nat} {xs : List Value} {u : Value} (h : Sl w e sz (.slice (some ⟨g, 0, none⟩) n cap) n xs) (hu : xs[0]? = some u) : w.cell? ⟨g, 0, none⟩ = some u := by
  obtain ⟨a, cap', e1, _, _, _, h4⟩ := h.rd
  cases e1
  exact (h4 _ rfl).2.2 0 u hu

set_option maxHeartbeats 4000000 in
theorem alive7 (w : World) : Calls Try.prog 20 #[] w fun e w' => e = .returned (.bool true) ∧ Fr (fun _ => False) w w' := by
  have kc := fun (w : World) (C : Array Value) (n c : Nat) => Lib.run_convert_bytes_const (P := Try.prog) w 28 5 C n c Try.underlying28 Try.underlying5
  go_enter Try.func20, Try.ntmps20
  go_upto_region 2 with (go_at_call 33; refine (new_ok 4 _ (by decide) (by decide)).mono ?_; rintro e w1 ⟨rfl, hR1, hb1⟩)
  have HR1 := Lib.hid hR1
  have H1 := Lib.hid hb1
  clear hR1 hb1
  have L1 : ∀ z, BV (w1.alloc (.cells #[.int .u8 97, .int .u8 98] 5 z)) (.slice (some ⟨w1.heap.size, 0, none⟩) 2 2) [97, 98] := fun z => lit_bv w1 [97, 98] z
  go_upto_region 4 with (go_at_call 21; go_loud (refine (write_ok (Raw.new w.heap.size 4) 1 _ [97, 98] _ (HR1.out.keep (S := fun _ => False) (by repeat' (first | with_reducible exact Fr.refl _ _ | with_reducible assumption | with_reducible refine Fr.drew ?_ | with_reducible refine Fr.alloc ?_ _)) (fun _ _ => id)) rfl (by decide) (by show (1 : Int) < 4; decide) (L1 _) (by decide) (lit_own HR1.out _ _) (by show (0 : Nat) < 1000000; decide)).mono ?_; rintro e w2 ⟨rfl, hp2⟩))
  obtain ⟨lv, v1, hR2, hS1, hv1, hlv, hf2⟩ := hp2
  obtain ⟨b1, c1, rfl⟩ := hS1.form
  have HR2 := Lib.hid hR2
  have T1 := Lib.hid hS1
  have T2 := Lib.hid hv1
  have T3 := Lib.hid hlv
  have T4 := Lib.hid hf2
  clear hR2 hS1 hv1 hlv hf2
  go_upto_region 5 with (go_at_call 23; go_loud (refine (sync_ok (((Raw.new w.heap.size 4).put 1 (.slice b1 2 c1) false lv).heal 1) _ HR2.out rfl (by show (0 : Int) < 4; decide) (by show (0 : Nat) < 1000000; decide)).mono ?_; rintro e w3 ⟨rfl, sv, hR3, hsv, hf3⟩))
  have HR3 := Lib.hid hR3
  have T5 := Lib.hid hsv
  have T6 := Lib.hid hf3
  clear hR3 hsv hf3
  have L2 : ∀ z, BV (w3.alloc (.cells #[.int .u8 99, .int .u8 100] 5 z)) (.slice (some ⟨w3.heap.size, 0, none⟩) 2 2) [99, 100] := fun z => lit_bv w3 [99, 100] z
  go_upto_region 6 with (go_at_call 21; go_loud (refine (write_ok ((((Raw.new w.heap.size 4).put 1 (.slice b1 2 c1) false lv).heal 1).sync sv) 1 _ [99, 100] _ (HR3.out.keep (S := fun _ => False) (by repeat' (first | with_reducible exact Fr.refl _ _ | with_reducible assumption | with_reducible refine Fr.drew ?_ | with_reducible refine Fr.alloc ?_ _)) (fun _ _ => id)) rfl (by decide) (by show (1 : Int) < 4; decide) (L2 _) (by decide) (lit_own HR3.out _ _) (by show (1 : Nat) < 1000000; decide)).mono ?_; rintro e w4 ⟨rfl, hp4⟩))
  obtain ⟨lv2, v2, hR4, hS2, hv2, hlv2, hf4⟩ := hp4
  obtain ⟨b2, c2, rfl⟩ := hS2.form
  obtain ⟨R, hdR, hL⟩ : ∃ R : Raw, w.heap.size + 4 = R.d ∧ Lives w R (.slice b1 2 c1) (.slice b2 2 c2) w4 := ⟨_, rfl, lives H1.out ((Fr.refl _ w1).alloc _) T1.out T2.out T3.out T4.out T5.out T6.out ((Fr.refl _ w3).alloc _) hR4 hS2 hf4⟩
  rw [hdR]
  clear hR4 hS2 hv2 hlv2 hf4 hdR HR3 T5 T6 L2 HR2 T1 T2 T3 T4 L1 HR1 H1
  obtain ⟨hR, ⟨m, hsy⟩, ⟨m1, m2, hlg⟩, hsz, hdd, hbe, hfe, hne, hv1, hv2, hfr, -⟩ := hL
  have D1 := Lib.hid hsy
  have D2 := Lib.hid hlg
  have D3 := Lib.hid hsz
  have D4 := Lib.hid hdd
  have D5 := Lib.hid hbe
  have D6 := Lib.hid hfe
  have D7 := Lib.hid hne
  have D8 := Lib.hid hv1
  have D9 := Lib.hid hv2
  have HF := Lib.hid hfr
  have HR := Lib.hid hR
  clear hsy hlg hsz hdd hbe hfe hne hv1 hv2 hfr hR
  go_upto_region 7 with (first
    | (go_at_call 28; refine (cut_two R m 1 1 m1 m2 b1 b2 2 c1 2 c2 _ HR.out (by rw [D3.out]; decide) (by rw [D3.out]; decide) D1.out D2.out).mono ?_; rintro e w5 ⟨C, rfl, hC, cbe, cdd, csz, cne, hf5⟩; have HC := Lib.hid hC; have E1 := Lib.hid cbe; have E2 := Lib.hid cdd; have E3 := Lib.hid csz; have E4 := Lib.hid cne; have HF5 := Lib.hid hf5; clear hC cbe cdd csz cne hf5)
    | (go_at_call 14; go_loud (refine (read_ok C 1 [97, 98] _ HC.out (E2.out.trans D4.out) (by decide) (by rw [E3.out, D3.out]; decide) (by rw [E1.out, D5.out]; rfl) (by rw [E4.out, D6.out]; exact (D8.out.keep HF5.out (fun _ _ => id)).rd) (by decide)).mono ?_; rintro e w6 ⟨g, c, rfl, hg1, hg2, hb6⟩; have HG := Lib.hid hg1; have HB := Lib.hid hb6; clear hg1 hb6)))
  have f46 : Fr (fun _ => False) w4 w6 := HF5.out.trans (Fr.of_below0 HB.out) (fun _ _ => False.elim)
  have HR6 := Lib.hid (HR.out.keep f46 (fun _ _ => id))
  have D9' := Lib.hid (D9.out.keep f46 (fun _ _ => id))
  have a0 : w6.cell? ⟨g, 0, none⟩ = some (.int .u8 97) := HG.out.cell0 rfl
  have lg6 : g < w6.heap.size := HG.out.lt g rfl
  have F46 := Lib.hid f46
  clear f46
  go_upto_region 8 with (go_at_call 14; go_loud (refine (read_ok R 1 [99, 100] _ HR6.out D4.out (by decide) (by rw [D3.out]; decide) (by rw [D5.out]; rfl) (by rw [D7.out]; exact D9'.out.rd) (by decide)).mono ?_; rintro e w7 ⟨g', c', rfl, hg1, hg2', hb7⟩; have a0' := (Fr.of_below0 hb7).cell a0 id; have lg7 := Nat.lt_of_lt_of_le lg6 hb7.size; have b0' : w7.cell? ⟨g', 0, none⟩ = some (.int .u8 99) := hg1.cell0 rfl; have lg7' : g' < w7.heap.size := hg1.lt g' rfl; have HB7 := Lib.hid hb7; clear hg1 hb7))
  have HR7 := Lib.hid (HR6.out.keep (Fr.of_below0 HB7.out) (fun _ _ => id))
  clear a0
  go_wp2_with (go_at_call 26; go_loud (refine (pending_two R m 1 1 m1 m2 _ b2 2 c2 _ HR7.out D1.out D2.out).mono ?_; rintro e w8 ⟨rfl, hf8⟩; have HF8 := Lib.hid hf8; clear hf8))
  go_returns
  refine ⟨rfl, Fr.of_below0 ((((HF.out.trans F46.out (fun _ _ => False.elim)).trans (Fr.of_below0 HB7.out) (fun _ _ => False.elim)).trans HF8.out (fun _ _ => False.elim)).fresh (fun k hk e => by omega))⟩

end Go.Proofs.Ytbakgaogehofbaa
