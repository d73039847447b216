/-
Walks of cofferdamref20: what is replied to an option.
-/
import Derived.Test.YtpelpmhopmefoaaCame0
namespace Go.Proofs.Ytpelpmhopmefoaa
open Go.RowKit Go.Cof
set_option maxRecDepth 100000
set_option linter.unusedSimpArgs false

/-- 'append(a, b...)' of bytes, a fresh, b from wherever. -/
theorem op_appS {o : Oper} {a : Act} {W w : World} {K : Act → World → Prop} {Q : Exit → Act → World → Prop} (s x : Operand)
    (ho : o.op = .call { callee := .builtin .append, args := #[s, x], argTypes := #[24, 24] }) {v1 v2 : Value} {L1 L2 : List UInt8} (h1 : a.eval s = v1) (hF : FreshBytes W w L1 v1) (h2 : a.eval x = v2) (hB : Src Try.prog 1 24 v2 L2.length (bv L2) w) (hl : L1.length + L2.length ≤ 140737488355328)
    (h : ∀ v' w', FreshBytes W w' (L1 ++ L2) v' → Fr (fun k => v1.ownBlock = some k) w w' → K (a.put o.dst v') w') : Oper.wp Try.prog o a w K Q := by
  obtain ⟨i0, hi, hz0, hz1, hz2⟩ := info_parts Try.info5
  exact op_append s x 24 24 ho 5 i0 (.int .u8 0) 1 1 Try.underlying24 hi hz0 hz1 hz2 rfl (by decide) v1 L1.length (bv L1) h1 hF.1 v2 L2.length (bv L2) h2 hB (by unfold maxLen; omega) (by omega)
    (fun v' w' hap => h v' w' (hF.append hap) hap.fr)

theorem fresh_lit (w : World) (l : List UInt8) (hl : l.length ≤ 1000000) : FreshBytes w (w.alloc (.cells (bv l).toArray 5)) l (.slice (some ⟨w.heap.size, 0, none⟩) l.length l.length) :=
  ⟨Sl.block (heap_new w _) (by simp [bv_length]) (by unfold maxLen; omega), fun g hg => by cases hg; exact Nat.le_refl _, (Fr.refl _ w).alloc _⟩

theorem field_one (n : Nat) (h : n < 256 ^ 4) : putB (n % 256 ^ 4) 4 = putB n 4 := by rw [Nat.mod_eq_of_lt h]
theorem optReplyB_eq (o r : Nat) (d : List UInt8) (ho : o < 256 ^ 4) (hr : r < 256 ^ 4) (hd : d.length < 256 ^ 4) : ansHead ++ putB o 4 ++ putB r 4 ++ putB d.length 4 ++ d = optReplyB o r d := by
  simp only [optReplyB, fieldB, List.flatMap_cons, List.flatMap_nil, List.append_nil]
  rw [Nat.mod_eq_of_lt ho, Nat.mod_eq_of_lt hr, Nat.mod_eq_of_lt hd]
  simp only [List.append_assoc]

theorem rOptionReply_any (o r : Nat) (v : Value) (d : List UInt8) (w : World) (ho : o < 256 ^ 4) (hr : r < 256 ^ 4) (hd : BW w v d) (hl : d.length ≤ 1000000) : Calls Try.prog 22 #[.int .i64 o, .int .i64 r, v] w (Makes (optReplyB o r d) w) := by
  obtain ⟨a, c, rfl⟩ := hd.form
  have HD := Lib.hid hd
  have HO := Lib.hid ho
  have HR := Lib.hid hr
  have ho' : (o : Int) ≤ 4294967295 := by omega
  have hr' : (r : Int) ≤ 4294967295 := by omega
  have X : Hid (d.length < 256 ^ 4) := Lib.hid (by omega)
  have L0 : ∀ w : World, FreshBytes w (w.alloc (.cells #[.int .u8 0, .int .u8 3, .int .u8 232, .int .u8 137, .int .u8 4, .int .u8 85, .int .u8 101, .int .u8 169] 5)) ansHead (.slice (some ⟨w.heap.size, 0, none⟩) 8 8) := fun w => fresh_lit w ansHead (by decide)
  have HL := Lib.hid L0
  obtain ⟨p1, hp1⟩ : ∃ p, putB o 4 = p := ⟨_, rfl⟩
  obtain ⟨p2, hp2⟩ : ∃ p, putB r 4 = p := ⟨_, rfl⟩
  obtain ⟨p3, hp3⟩ : ∃ p, putB d.length 4 = p := ⟨_, rfl⟩
  have l1 : p1.length = 4 := by rw [← hp1, putB_length]
  have l2 : p2.length = 4 := by rw [← hp2, putB_length]
  have l3 : p3.length = 4 := by rw [← hp3, putB_length]
  have E : Hid (ansHead ++ p1 ++ p2 ++ p3 ++ d = optReplyB o r d) := Lib.hid (by rw [← hp1, ← hp2, ← hp3]; exact optReplyB_eq o r d ho hr (by omega))
  have P1 := Lib.hid hp1
  have P2 := Lib.hid hp2
  have P3 := Lib.hid hp3
  have M1 := Lib.hid l1
  have M2 := Lib.hid l2
  have M3 := Lib.hid l3
  have MA : Hid (ansHead.length = 8) := Lib.hid rfl
  clear hd ho hr L0 hp1 hp2 hp3 l1 l2 l3
  go_enter Try.func22, Try.ntmps22
  go_upto_region 2 with fail
  have F0 := Lib.hid (HL.out w)
  have HD0 := Lib.hid (HD.out.keep0 F0.out.2.2)
  generalize (w.alloc (.cells #[.int .u8 0, .int .u8 3, .int .u8 232, .int .u8 137, .int .u8 4, .int .u8 85, .int .u8 101, .int .u8 169] 5)) = w0 at *
  go_upto_region 3 with (first
    | (go_at_call 40; go_loud (refine (bytes_ok o 4 w0 (by decide) (by decide) HO.out).mono ?_; rintro e w1 ⟨rfl, hp⟩; rw [P1.out] at hp; have HP1 := Lib.hid hp; have F0' := Lib.hid (F0.out.keep hp.2.2); clear hp))
    | (at_builtin; go_loud (refine wpList_op rfl fun K hK => op_appS (.tmp 9) (.tmp 13) rfl rfl F0'.out rfl (by have := HP1.out.1.rd.src (P := Try.prog) Try.underlying24 (bv_one p1); rw [M1.out] at this ⊢; exact this) (by rw [M1.out, MA.out]; decide) ?_; intro v1 w2 hF1 _; have F1 := Lib.hid hF1; clear hF1; simp only [Act.put, List.setIfInBounds_toArray, List.set_cons_zero, List.set_cons_succ]; refine hK _ _ ?_)))
  go_upto_region 4 with (first
    | (go_at_call 40; go_loud (refine (bytes_ok r 4 w2 (by decide) (by decide) HR.out).mono ?_; rintro e w3 ⟨rfl, hp⟩; rw [P2.out] at hp; have HP2 := Lib.hid hp; have F1' := Lib.hid (F1.out.keep hp.2.2); clear hp))
    | (at_builtin; go_loud (refine wpList_op rfl fun K hK => op_appS (.tmp 15) (.tmp 19) rfl rfl F1'.out rfl (by have := HP2.out.1.rd.src (P := Try.prog) Try.underlying24 (bv_one p2); rw [M2.out] at this ⊢; exact this) (by rw [List.length_append, M1.out, M2.out, MA.out]; decide) ?_; intro v2 w4 hF2 _; have F2 := Lib.hid hF2; clear hF2; simp only [Act.put, List.setIfInBounds_toArray, List.set_cons_zero, List.set_cons_succ]; refine hK _ _ ?_)))
  go_upto_region 5 with (first
    | (go_at_call 40; go_loud (refine (bytes_ok d.length 4 w4 (by decide) (by decide) X.out).mono ?_; rintro e w5 ⟨rfl, hp⟩; rw [P3.out] at hp; have HP3 := Lib.hid hp; have F2' := Lib.hid (F2.out.keep hp.2.2); clear hp))
    | (at_builtin; go_loud (refine wpList_op rfl fun K hK => op_appS (.tmp 21) (.tmp 26) rfl rfl F2'.out rfl (by have := HP3.out.1.rd.src (P := Try.prog) Try.underlying24 (bv_one p3); rw [M3.out] at this ⊢; exact this) (by rw [List.length_append, List.length_append, M1.out, M2.out, M3.out, MA.out]; decide) ?_; intro v3 w6 hF3 _; have F3 := Lib.hid hF3; have HD3 := Lib.hid (HD.out.keep0 hF3.2.2); clear hF3; simp only [Act.put, List.setIfInBounds_toArray, List.set_cons_zero, List.set_cons_succ]; refine hK _ _ ?_)))
  go_wp2_with (at_builtin; go_loud (refine wpList_op rfl fun K hK => op_appS (.tmp 28) (.tmp 29) rfl rfl F3.out rfl HD3.out.src (by rw [List.length_append, List.length_append, List.length_append, M1.out, M2.out, M3.out, MA.out]; omega) ?_; intro v4 w7 hF4 _; have F4 := Lib.hid hF4; clear hF4; simp only [Act.put, List.setIfInBounds_toArray, List.set_cons_zero, List.set_cons_succ]; refine hK _ _ ?_))
  go_returns
  have := F4.out
  rw [E.out] at this
  exact ⟨_, rfl, this⟩

end Go.Proofs.Ytpelpmhopmefoaa
