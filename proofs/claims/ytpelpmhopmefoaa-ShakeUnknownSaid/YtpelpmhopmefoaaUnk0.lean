/-
cofferdamlaw21: an option as it is sent; what it does.
-/
import Derived.Test.YtpelpmhopmefoaaCame2
import Derived.Test.YtpelpmhopmefoaaRw0
import Derived.Test.YtpelpmhopmefoaaFormsP
namespace Go.Proofs.Ytpelpmhopmefoaa
open Go.RowKit Go.Cof
set_option maxRecDepth 100000
set_option linter.unusedSimpArgs false

/-- An option as it is sent. -/
def optMsg (k : Nat) (d : List UInt8) : List UInt8 := haveOpt ++ (putB k 4 ++ (putB d.length 4 ++ d))
theorem optMsg_len (k : Nat) (d : List UInt8) : (optMsg k d).length = 16 + d.length := by
  simp [optMsg, putB_length, haveOpt]
  omega
theorem optMsg_take (k : Nat) (d : List UInt8) (hk : k < 256 ^ 4) (hd : d.length ≤ 1000) : takeOpt (optMsg k d) = (k, d, 16 + d.length, 0) := by
  have h8 : haveOpt.length = 8 := rfl
  have hb : beginsB (optMsg k d) haveOpt = true := by
    rw [beginsB, beq_iff_eq, optMsg_len, h8, Nat.min_eq_right (by omega)]
    exact List.take_left' rfl
  have e8 : ((optMsg k d).drop 8).take 4 = putB k 4 := by
    rw [optMsg, show (8 : Nat) = haveOpt.length from rfl, List.drop_left]
    exact List.take_left' (putB_length _ 4)
  have e12 : ((optMsg k d).drop 12).take 4 = putB d.length 4 := by
    rw [optMsg, show (12 : Nat) = haveOpt.length + 4 from rfl, ← List.drop_drop, List.drop_left, List.drop_left' (putB_length _ 4)]
    exact List.take_left' (putB_length _ 4)
  have e16 : (optMsg k d).drop 16 = d := by
    rw [optMsg, show (16 : Nat) = haveOpt.length + 4 + 4 from rfl, ← List.drop_drop, ← List.drop_drop, List.drop_left, List.drop_left' (putB_length _ 4), List.drop_left' (putB_length _ 4)]
  rw [takeOpt, hb, if_neg (by simp), optMsg_len, if_neg (by omega), e12, getN_put4 _ (by omega), if_neg (by omega), if_neg (by omega), e8, getN_put4 _ hk, e16, List.take_length]

theorem feed_opt {S : Sh} (hp : S.phase = 1) (k : Nat) (d : List UInt8) (hk : k < 256 ^ 4) (hd : d.length ≤ 1000) : S.feed (optMsg k d) = ((S.optB k d).1, 16 + d.length, (S.optB k d).2) := by
  have h1 : S.one (optMsg k d) = ((S.optB k d).1, 16 + d.length, (S.optB k d).2) := by
    rw [Sh.one, if_neg (by omega), optMsg_take k d hk hd]
    simp
  rw [Sh.feed_go (by omega) (by rw [h1]; simp only; omega), h1]
  simp only
  rw [List.drop_of_length_le (by rw [optMsg_len]; exact Nat.le_refl _)]
  have h2 := Sh.feed_again S (optMsg k d)
  by_cases hq : (S.optB k d).2.phase < 2
  · have h3 : (S.optB k d).2.one [] = ([], 0, (S.optB k d).2) := by
      refine Sh.one_zero ?_
      have := (S.optB k d).2.one_le []
      simpa using this
    rw [Sh.feed_stop hq (by rw [h3]), h3]
    simp
  · rw [Sh.feed_over hq]
    simp
theorem opt_unknown {S : Sh} (k : Nat) (d : List UInt8) (hk : 9 ≤ k) : S.optB k d = (optReplyB k repUnsup [], S) := by
  rw [Sh.optB, if_neg (by omega), Sh.answerL, if_neg (by omega), if_neg (by omega), if_neg (by omega), if_neg (by omega), if_neg (by omega)]
  simp [saysB]

theorem fresh_mark (w : World) (l : List UInt8) (hl : l.length ≤ 1000000) : FreshBytes w (w.alloc (.cells (bv l).toArray 5 (l.length, l.length + 1))) l (.slice (some ⟨w.heap.size, 0, none⟩) l.length l.length) := by
  refine ⟨⟨by simp [bv_length], .inr ⟨w.heap.size, 0, l.length, _, _, rfl, heap_new w _, Nat.le_refl _, by unfold maxLen; omega, by simp [bv_length], fun j hj => by simp, fun j hj => ?_⟩⟩, fun g hg => by cases hg; exact Nat.le_refl _, (Fr.refl _ w).alloc _⟩
  simp
  omega

theorem option_cut (a : Option Addr) (c : Nat) (d : List UInt8) (w : World) (hd : BW w (.slice a d.length c) d) : (d.length ≤ 1000 → BW w (.slice a d.length c) (d.take 1000) ∧ (d.take 1000).length = d.length) ∧ (¬ d.length ≤ 1000 → BW w (.slice a 1000 c) (d.take 1000) ∧ (d.take 1000).length = 1000) := by
  refine ⟨fun h => ?_, fun h => ⟨hd.take 1000 (by omega), by rw [List.length_take]; omega⟩⟩
  rw [List.take_of_length_le h]
  exact ⟨hd, rfl⟩

set_option maxHeartbeats 1000000 in
theorem option_any (k : Nat) (v : Value) (d : List UInt8) (w : World) (hk : k < 256 ^ 4) (hd : BW w v d) (hl : d.length ≤ 9223372036854775807) : Calls Try.prog 27 #[.int .i64 k, v] w (Makes (optMsg k (d.take 1000)) w) := by
  obtain ⟨a, c, rfl⟩ := hd.form
  have hk' : (k : Int) ≤ 4294967295 := by omega
  have hdc := hd.len.2
  obtain ⟨x1, x2⟩ := option_cut a c d w hd
  obtain ⟨D, hD⟩ : ∃ D, d.take 1000 = D := ⟨_, rfl⟩
  rw [hD] at x1 x2
  rw [hD]
  have HK := Lib.hid hk
  have kc := fun (w : World) (C : Array Value) (n c : Nat) => Lib.run_convert_bytes_const (P := Try.prog) w 24 5 C n c Try.underlying24 Try.underlying5
  have L0 : ∀ w : World, FreshBytes w (w.alloc (.cells #[.int .u8 73, .int .u8 72, .int .u8 65, .int .u8 86, .int .u8 69, .int .u8 79, .int .u8 80, .int .u8 84] 5 (8, 9))) haveOpt (.slice (some ⟨w.heap.size, 0, none⟩) 8 8) := fun w => fresh_mark w haveOpt (by decide)
  have HL := Lib.hid L0
  have MA : Hid (haveOpt.length = 8) := Lib.hid rfl
  clear hk hd hD L0
  rcases Decidable.em (d.length ≤ 1000) with hl1 | hl1
  · obtain ⟨y1, y2⟩ := x1 hl1
    have hn : ((d.length : Nat) : Int) ≤ 1000 := by omega
    have HD := Lib.hid y1
    have HDl := Lib.hid y2
    have HD3 : Hid (D.length ≤ 1000) := Lib.hid (by omega)
    obtain ⟨p1, hp1⟩ : ∃ p, putB k 4 = p := ⟨_, rfl⟩
    obtain ⟨p2, hp2⟩ : ∃ p, putB D.length 4 = p := ⟨_, rfl⟩
    have M1 : Hid (p1.length = 4) := Lib.hid (by rw [← hp1, putB_length])
    have M2 : Hid (p2.length = 4) := Lib.hid (by rw [← hp2, putB_length])
    have E : Hid (haveOpt ++ p1 ++ p2 ++ D = optMsg k D) := Lib.hid (by rw [← hp1, ← hp2, optMsg]; simp only [List.append_assoc])
    rw [y2] at hp2
    have P1 := Lib.hid hp1
    have P2 := Lib.hid hp2
    clear x1 x2 y1 y2 hp1 hp2
    go_enter Try.func27, Try.ntmps27
    go_upto_region 3 with (first
      | (go_at_call 40; go_loud (have F0 := Lib.hid (HL.out w); have HD0 := Lib.hid (HD.out.keep0 F0.out.2.2); refine (bytes_ok k 4 _ (by decide) (by decide) HK.out).mono ?_; rintro e w1 ⟨rfl, hp⟩; rw [P1.out] at hp; have HP1 := Lib.hid hp; have F0' := Lib.hid (F0.out.keep hp.2.2); clear hp))
      | (at_builtin; go_loud (refine wpList_op rfl fun K hK => op_appS (.tmp 13) (.tmp 17) rfl rfl F0'.out rfl (by have := HP1.out.1.rd.src (P := Try.prog) Try.underlying24 (bv_one p1); rw [M1.out] at this ⊢; simp only [World.size_alloc] at this; exact this) (by rw [M1.out, MA.out]; decide) ?_; intro v1 w2 hF1 _; have F1 := Lib.hid hF1; clear hF1; simp only [Act.put, List.setIfInBounds_toArray, List.set_cons_zero, List.set_cons_succ]; refine hK _ _ ?_)))
    go_upto_region 4 with (first
      | (go_at_call 40; go_loud (refine (bytes_ok _ 4 w2 (by decide) (by decide) (by omega)).mono ?_; rintro e w3 ⟨rfl, hp⟩; rw [P2.out] at hp; have HP2 := Lib.hid hp; have F1' := Lib.hid (F1.out.keep hp.2.2); clear hp))
      | (at_builtin; go_loud (refine wpList_op rfl fun K hK => op_appS (.tmp 19) (.tmp 23) rfl rfl F1'.out rfl (by have := HP2.out.1.rd.src (P := Try.prog) Try.underlying24 (bv_one p2); rw [M2.out] at this ⊢; exact this) (by rw [List.length_append, M1.out, M2.out, MA.out]; decide) ?_; intro v2 w4 hF2 _; have F2 := Lib.hid hF2; have HD4 := Lib.hid (HD.out.keep0 hF2.2.2); clear hF2; simp only [Act.put, List.setIfInBounds_toArray, List.set_cons_zero, List.set_cons_succ]; refine hK _ _ ?_)))
    go_wp2_with (at_builtin; go_loud (refine wpList_op rfl fun K hK => op_appS (.tmp 25) (.tmp 26) rfl rfl F2.out rfl HD4.out.src (by rw [List.length_append, List.length_append, M1.out, M2.out, MA.out]; have := HD3.out; omega) ?_; intro v4 w7 hF4 _; have F4 := Lib.hid hF4; clear hF4; simp only [Act.put, List.setIfInBounds_toArray, List.set_cons_zero, List.set_cons_succ]; refine hK _ _ ?_))
    go_returns
    have := F4.out
    rw [E.out] at this
    exact ⟨_, rfl, this⟩
  · obtain ⟨y1, y2⟩ := x2 hl1
    have hn : (1000 : Int) < d.length := by omega
    have HD := Lib.hid y1
    have HDl := Lib.hid y2
    have HD3 : Hid (D.length ≤ 1000) := Lib.hid (by omega)
    obtain ⟨p1, hp1⟩ : ∃ p, putB k 4 = p := ⟨_, rfl⟩
    obtain ⟨p2, hp2⟩ : ∃ p, putB D.length 4 = p := ⟨_, rfl⟩
    have M1 : Hid (p1.length = 4) := Lib.hid (by rw [← hp1, putB_length])
    have M2 : Hid (p2.length = 4) := Lib.hid (by rw [← hp2, putB_length])
    have E : Hid (haveOpt ++ p1 ++ p2 ++ D = optMsg k D) := Lib.hid (by rw [← hp1, ← hp2, optMsg]; simp only [List.append_assoc])
    rw [y2] at hp2
    have P1 := Lib.hid hp1
    have P2 := Lib.hid hp2
    clear x1 x2 y1 y2 hp1 hp2
    go_enter Try.func27, Try.ntmps27
    go_upto_region 3 with (first
      | (go_at_call 40; go_loud (have F0 := Lib.hid (HL.out w); have HD0 := Lib.hid (HD.out.keep0 F0.out.2.2); refine (bytes_ok k 4 _ (by decide) (by decide) HK.out).mono ?_; rintro e w1 ⟨rfl, hp⟩; rw [P1.out] at hp; have HP1 := Lib.hid hp; have F0' := Lib.hid (F0.out.keep hp.2.2); clear hp))
      | (at_builtin; go_loud (refine wpList_op rfl fun K hK => op_appS (.tmp 13) (.tmp 17) rfl rfl F0'.out rfl (by have := HP1.out.1.rd.src (P := Try.prog) Try.underlying24 (bv_one p1); rw [M1.out] at this ⊢; simp only [World.size_alloc] at this; exact this) (by rw [M1.out, MA.out]; decide) ?_; intro v1 w2 hF1 _; have F1 := Lib.hid hF1; clear hF1; simp only [Act.put, List.setIfInBounds_toArray, List.set_cons_zero, List.set_cons_succ]; refine hK _ _ ?_)))
    go_upto_region 4 with (first
      | (go_at_call 40; go_loud (refine (bytes_ok 1000 4 w2 (by decide) (by decide) (by decide)).mono ?_; rintro e w3 ⟨rfl, hp⟩; rw [P2.out] at hp; have HP2 := Lib.hid hp; have F1' := Lib.hid (F1.out.keep hp.2.2); clear hp))
      | (at_builtin; go_loud (refine wpList_op rfl fun K hK => op_appS (.tmp 19) (.tmp 23) rfl rfl F1'.out rfl (by have := HP2.out.1.rd.src (P := Try.prog) Try.underlying24 (bv_one p2); rw [M2.out] at this ⊢; exact this) (by rw [List.length_append, M1.out, M2.out, MA.out]; decide) ?_; intro v2 w4 hF2 _; have F2 := Lib.hid hF2; have HD4 := Lib.hid (HD.out.keep0 hF2.2.2); clear hF2; simp only [Act.put, List.setIfInBounds_toArray, List.set_cons_zero, List.set_cons_succ]; refine hK _ _ ?_)))
    go_wp2_with (at_builtin; go_loud (refine wpList_op rfl fun K hK => op_appS (.tmp 25) (.tmp 26) rfl rfl F2.out rfl HD4.out.src (by rw [List.length_append, List.length_append, M1.out, M2.out, MA.out]; have := HD3.out; omega) ?_; intro v4 w7 hF4 _; have F4 := Lib.hid hF4; clear hF4; simp only [Act.put, List.setIfInBounds_toArray, List.set_cons_zero, List.set_cons_succ]; refine hK _ _ ?_))
    go_returns
    have := F4.out
    rw [E.out] at this
    exact ⟨_, rfl, this⟩

end Go.Proofs.Ytpelpmhopmefoaa
