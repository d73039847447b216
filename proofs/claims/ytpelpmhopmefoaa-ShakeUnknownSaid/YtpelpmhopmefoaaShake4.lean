/-
Walks of package shake: what is said to Info and Go.
-/
import Derived.Test.YtpelpmhopmefoaaShake3
namespace Go.Proofs.Ytpelpmhopmefoaa
open Go.RowKit Go.Cof
set_option maxRecDepth 100000
set_option linter.unusedSimpArgs false

/-- 'append(a, b...)' of bytes, a fresh. -/
theorem op_appB {o : Oper} {a : Act} {W w : World} {K : Act → World → Prop} {Q : Exit → Act → World → Prop} (s x : Operand)
    (ho : o.op = .call { callee := .builtin .append, args := #[s, x], argTypes := #[24, 24] }) {v1 v2 : Value} {L1 L2 : List UInt8} (h1 : a.eval s = v1) (hF : FreshBytes W w L1 v1) (h2 : a.eval x = v2) (hB : BV w v2 L2) (hl : L1.length + L2.length ≤ 100000000000)
    (h : ∀ v' w', FreshBytes W w' (L1 ++ L2) v' → Fr (fun k => v1.ownBlock = some k) w w' → K (a.put o.dst v') w') : Oper.wp Try.prog o a w K Q := by
  obtain ⟨i0, hi, hz0, hz1, hz2⟩ := info_parts Try.info5
  exact op_append s x 24 24 ho 5 i0 (.int .u8 0) 1 1 Try.underlying24 hi hz0 hz1 hz2 rfl (by decide) v1 L1.length (bv L1) h1 hF.1 v2 L2.length (bv L2) h2 (hB.src Try.underlying24 (bv_one L2)) (by unfold maxLen; omega) (by omega)
    (fun v' w' hap => h v' w' (hF.append hap) hap.fr)

theorem _root_.Go.Cof.Sl.block {w : World} {b sz n : Nat} {xs : List Value} {T : TypeId} (h : w.heap[b]? = some (.cells xs.toArray T (0, 0))) (hl : xs.length = n * sz) (hn : n ≤ maxLen) : Sl w T sz (.slice (some ⟨b, 0, none⟩) n n) n xs :=
  ⟨hl, .inr ⟨b, 0, n, _, _, rfl, h, Nat.le_refl _, hn, by simp [hl], fun j hj => by simp, fun j _ => by simp⟩⟩

theorem Try.info119 : (Try.prog.info? 119).map (fun i => (i.zero, i.size, i.bytes)) = some (some (.agg #[.int .i64 0, .slice none 0 0]), 2, 32) := by kernel_rfl

/-- Replies as cells. -/
def rcells (rs : List (Nat × Value × List UInt8)) : List Value := rs.flatMap fun r => [.int .i64 r.1, r.2.1]
/-- v are these replies, in new memory. -/
def Reps (rs : List (Nat × Value × List UInt8)) (w w' : World) (v : Value) : Prop :=
  Sl w' 119 2 v rs.length (rcells rs) ∧ (∀ g, v.ownBlock = some g → w.heap.size ≤ g) ∧ ∀ r ∈ rs, BV w' r.2.1 r.2.2 ∧ ∀ g, r.2.1.ownBlock = some g → w.heap.size ≤ g ∧ v.ownBlock ≠ some g
def Says (l : List (Nat × List UInt8)) (w w' : World) (v : Value) : Prop :=
  ∃ rs : List (Nat × Value × List UInt8), rs.map (fun r => (r.1, r.2.2)) = l ∧ Reps rs w w' v
def InfoDone (l : List (Nat × List UInt8)) (w : World) (e : Ending) (w' : World) : Prop := ∃ v, e = .returned v ∧ Says l w w' v ∧ Fr (fun _ => False) w w'

theorem Reps.keep {rs : List (Nat × Value × List UInt8)} {w w1 w2 : World} {v : Value} {K : Nat → Prop} (h : Reps rs w w1 v) (hf : Fr K w1 w2) (hK : ∀ g, w.heap.size ≤ g → ¬ K g) : Reps rs w w2 v :=
  ⟨h.1.keep hf (fun g hg => hK g (h.2.1 g hg)), h.2.1, fun r hr => ⟨(h.2.2 r hr).1.keep hf (fun g hg => hK g ((h.2.2 r hr).2 g hg).1), (h.2.2 r hr).2⟩⟩
theorem Reps.one {w w' : World} {k : Nat} {rv : Value} {rl : List UInt8} (hs : w.heap.size ≤ w'.heap.size) (hb : BV w' rv rl) (ho : ∀ g, rv.ownBlock = some g → w.heap.size ≤ g) :
    Reps [(k, rv, rl)] w (w'.alloc (.cells #[.int .i64 k, rv] 119)) (.slice (some ⟨w'.heap.size, 0, none⟩) 1 1) := by
  refine ⟨Sl.block (heap_new w' _) rfl (by decide), fun g hg => by cases hg; exact hs, fun r hr => ?_⟩
  obtain rfl := List.mem_singleton.1 hr
  refine ⟨hb.keep ((Fr.refl (fun _ => False) w').alloc _) (fun _ _ => id), fun g hg => ⟨ho g hg, fun e => ?_⟩⟩
  have h1 := hb.lt g hg
  have h2 : w'.heap.size = g := by simpa [Value.ownBlock] using e
  omega
theorem Reps.append {rs : List (Nat × Value × List UInt8)} {w w1 w2 : World} {v v' rv : Value} {k : Nat} {rl : List UInt8} (h : Reps rs w w1 v) (hs : w.heap.size ≤ w1.heap.size) (hb : BV w1 rv rl) (ho : ∀ g, rv.ownBlock = some g → w.heap.size ≤ g ∧ v.ownBlock ≠ some g)
    (hap : Appended w1 w2 119 2 v v' (rs.length + 1) (rcells rs ++ [.int .i64 k, rv])) : Reps (rs ++ [(k, rv, rl)]) w w2 v' := by
  have key : ∀ r ∈ rs ++ [(k, rv, rl)], BV w1 r.2.1 r.2.2 ∧ ∀ g, r.2.1.ownBlock = some g → w.heap.size ≤ g ∧ v.ownBlock ≠ some g := by
    intro r hr
    rcases List.mem_append.1 hr with hr | hr
    · exact h.2.2 r hr
    · obtain rfl := List.mem_singleton.1 hr
      exact ⟨hb, ho⟩
  refine ⟨?_, fun g hg => ?_, fun r hr => ⟨(key r hr).1.keep hap.fr (fun g hg => ((key r hr).2 g hg).2), fun g hg => ⟨((key r hr).2 g hg).1, fun e => ?_⟩⟩⟩
  · rw [List.length_append]
    simpa [rcells] using hap.sl
  · rcases hap.own g hg with e | e
    · exact h.2.1 g e
    · omega
  · rcases hap.own g e with e | e
    · exact ((key r hr).2 g hg).2 e
    · have := (key r hr).1.lt g hg
      omega
theorem Reps.fr {rs : List (Nat × Value × List UInt8)} {w w1 w2 : World} {v v' : Value} {xs : List Value} {n : Nat} (h : Reps rs w w1 v) (hf : Fr (fun _ => False) w w1) (hap : Appended w1 w2 119 2 v v' n xs) : Fr (fun _ => False) w w2 :=
  Fr.of_below0 (((hf.mono (S' := fun g => w.heap.size ≤ g) (fun _ _ => False.elim)).trans hap.fr (fun g _ hg => h.2.1 g hg)).fresh (fun k hk e => by omega))

theorem said_one {w w' : World} (k : Nat) (hf : Fr (fun _ => False) w w') : InfoDone [(k, [])] w (.returned (.slice (some ⟨w'.heap.size, 0, none⟩) 1 1)) (w'.alloc (.cells #[.int .i64 k, .slice none 0 0] 119)) :=
  ⟨_, rfl, ⟨[(k, .slice none 0 0, [])], rfl, Reps.one hf.size (Rd.nil _ _) (fun g hg => by cases hg)⟩, hf.alloc _⟩

theorem Try.rep_src (w : World) (k : Nat) (rv : Value) (h1 : rv.oneCell' = true) : Src Try.prog 2 116 (.slice (some ⟨w.heap.size, 0, none⟩) 1 1) 1 [.int .i64 k, rv] (w.alloc (.cells #[.int .i64 k, rv] 119)) :=
  (Rd.block (xs := [.int .i64 k, rv]) (heap_new w _) rfl).src Try.underlying116 (by
    intro u hu
    simp at hu
    rcases hu with rfl | rfl
    · rfl
    · exact h1)

/-- 'append(l, reply{..})' -/
theorem op_appR {o : Oper} {a : Act} {W w : World} {K : Act → World → Prop} {Q : Exit → Act → World → Prop} (s x : Operand)
    (ho : o.op = .call { callee := .builtin .append, args := #[s, x], argTypes := #[116, 116] }) {v rv : Value} {rs : List (Nat × Value × List UInt8)} {k : Nat} {K' : Int} {rl : List UInt8} (h1 : a.eval s = v) (hF : Fr (fun _ => False) W w) (hR : Reps rs W w v) (h2 : a.eval x = .slice (some ⟨w.heap.size, 0, none⟩) 1 1) (hk : K' = k)
    (h1' : rv.oneCell' = true) (hB : BV w rv rl) (hO : ∀ g, rv.ownBlock = some g → W.heap.size ≤ g ∧ v.ownBlock ≠ some g) (hl : rs.length ≤ 1000)
    (h : ∀ v' w', Reps (rs ++ [(k, rv, rl)]) W w' v' → Fr (fun _ => False) W w' → K (a.put o.dst v') w') : Oper.wp Try.prog o a (w.alloc (.cells #[.int .i64 K', rv] 119)) K Q := by
  subst hk
  obtain ⟨i9, hi, hz0, hz1, hz2⟩ := info_parts Try.info119
  have hf := (Fr.refl (fun _ => False) w).alloc (.cells #[.int .i64 k, rv] 119)
  have hR' := hR.keep hf (fun _ _ => id)
  exact op_append s x 116 116 ho 119 i9 _ 2 32 Try.underlying116 hi hz0 hz1 hz2 rfl (by decide) v rs.length (rcells rs) h1 hR'.1 _ 1 _ h2 (Try.rep_src w k rv h1') (by unfold maxLen; omega) (by omega)
    (fun v' w' hap => h v' w' (hR'.append (Nat.le_trans hF.size hf.size) (hB.keep hf (fun _ _ => id)) hO hap) (hR'.fr (hF.alloc _) hap))

theorem takeInf_askedLen (d : List UInt8) : (takeInf d).2.1.length ≤ d.length := by
  unfold takeInf
  repeat' split
  all_goals simp only [List.length_nil, twos_length]
  all_goals omega

theorem info_bad (h : Nat) (S : Sh) (v : Value) (d : List UInt8) (w : World) (hd : BV w v d) (hl : d.length ≤ 100000) (he : (takeInf d).2.2 ≠ 0) :
    Calls Try.prog 90 #[.pointer (some ⟨h, 0, none⟩), v] w (InfoDone (S.infoL d) w) := by
  obtain ⟨nm, asked, er, ht⟩ : ∃ nm asked er, takeInf d = (nm, asked, er) := ⟨_, _, _, rfl⟩
  have E : Hid (S.infoL d = [(repInvalid, [])]) := Lib.hid (by rw [Sh.infoL, if_pos he])
  rw [ht] at he
  have he' : (er != 0) = true := by simpa using he
  obtain ⟨a, c, rfl⟩ := hd.form
  have HD := Lib.hid hd
  have HT := Lib.hid ht
  clear hd ht he
  go_enter Try.func90, Try.ntmps90
  go_wp2_with (go_at_call 94; go_loud (refine (takeInfo_any _ d _ HD.out hl).mono ?_; rintro e w1 ⟨v1, he1, hs1, hf1⟩; rw [HT.out] at he1; subst he1; have HF1 := Lib.hid hf1; clear hs1 hf1))
  go_returns
  rw [E.out]
  exact said_one _ HF1.out

theorem info_unknown (h : Nat) (S : Sh) (v : Value) (d : List UInt8) (w : World) (hs : ShAt w h S) (hd : BV w v d) (hl : d.length ≤ 100000) (he : (takeInf d).2.2 = 0) (hn : (takeInf d).1 ≠ []) (hn2 : (takeInf d).1 ≠ S.name) :
    Calls Try.prog 90 #[.pointer (some ⟨h, 0, none⟩), v] w (InfoDone (S.infoL d) w) := by
  obtain ⟨nm, asked, er, ht⟩ : ∃ nm asked er, takeInf d = (nm, asked, er) := ⟨_, _, _, rfl⟩
  have E : Hid (S.infoL d = [(repUnknown, [])]) := Lib.hid (by rw [Sh.infoL, if_neg (by simp [he]), if_pos ⟨hn, hn2⟩])
  rw [ht] at he hn hn2
  have e1 : nm.isEmpty = false := by simpa using hn
  have e2 : (nm == S.name) = false := by simpa using hn2
  simp only at he
  subst he
  have tn := toList_strB nm
  have ts := toList_strB S.name
  obtain ⟨a, c, rfl⟩ := hd.form
  have c0 := hs.c0
  have HD := Lib.hid hd
  have HT := Lib.hid ht
  clear hd ht hs hn hn2
  go_enter Try.func90, Try.ntmps90
  go_wp2_with (go_at_call 94; go_loud (refine (takeInfo_any _ d _ HD.out hl).mono ?_; rintro e w1 ⟨v1, he1, hs1, hf1⟩; rw [HT.out] at he1; subst he1; have c1 := hf1.cell c0 id; have HF1 := Lib.hid hf1; clear hs1 hf1))
  go_returns
  rw [E.out]
  exact said_one _ HF1.out

set_option maxHeartbeats 1000000 in
theorem info_ok (h : Nat) (S : Sh) (v : Value) (d : List UInt8) (w : World) (hs : ShAt w h S) (hz : (S.sectors : Int) ≤ 1000000) (hd : BV w v d) (hl : d.length ≤ 100000) (he : (takeInf d).2.2 = 0) (hn : (takeInf d).1 = [] ∨ (takeInf d).1 = S.name) :
    Calls Try.prog 90 #[.pointer (some ⟨h, 0, none⟩), v] w (InfoDone (S.infoL d) w) := by
  obtain ⟨i9, hi, hz0, hz1, hz2⟩ := info_parts Try.info119
  obtain ⟨nm, asked, er, ht⟩ : ∃ nm asked er, takeInf d = (nm, asked, er) := ⟨_, _, _, rfl⟩
  have E : Hid (S.infoL d = if asked.contains 3 then [(3, numB [(0, 2)] ++ S.exportB), (3, numB [(3, 2), (64, 4), (64, 4), (1024, 4)]), (1, [])] else [(3, numB [(0, 2)] ++ S.exportB), (1, [])]) :=
    Lib.hid (by rw [Sh.infoL, if_neg (by simp [he]), if_neg (by rcases hn with e | e <;> simp [e]), ht])
  rw [ht] at he hn
  simp only at he hn
  subst he
  have hx : asked.length ≤ 100000 := by
    have := takeInf_askedLen d
    rw [ht] at this
    simp only at this
    omega
  have tn := toList_strB nm
  have ts := toList_strB S.name
  have e12 : nm.isEmpty = true ∨ (nm.isEmpty = false ∧ (nm == S.name) = true) := by
    rcases hn with rfl | rfl
    · exact .inl rfl
    · cases hn : S.name with
      | nil => exact .inl rfl
      | cons a l => exact .inr ⟨rfl, by simp⟩
  obtain ⟨a, c, rfl⟩ := hd.form
  have c0 := hs.c0
  have HS := Lib.hid hs
  have HD := Lib.hid hd
  have HT := Lib.hid ht
  have N1 : Hid (∀ f ∈ [((0 : Nat), 2)], f.1 < 256 ^ f.2 ∧ 1 ≤ f.2 ∧ f.2 ≤ 8 ∧ (f.1 : Int) ≤ 9223372036854775807) := Lib.hid (by decide)
  have N2 : Hid (∀ f ∈ [((3 : Nat), 2), (64, 4), (64, 4), (1024, 4)], f.1 < 256 ^ f.2 ∧ 1 ≤ f.2 ∧ f.2 ≤ 8 ∧ (f.1 : Int) ≤ 9223372036854775807) := Lib.hid (by decide)
  clear hd ht hs hn
  obtain ⟨L4, hL4⟩ : ∃ L, numB [(0, 2)] ++ S.exportB = L := ⟨_, rfl⟩
  rw [hL4] at E
  have HL4 := Lib.hid hL4
  clear hL4
  obtain ⟨C, hC⟩ : ∃ C, asked.contains 3 = C := ⟨_, rfl⟩
  rw [hC] at E
  have HC := Lib.hid hC
  clear hC
  rcases e12 with e1 | ⟨e1, e2⟩
  all_goals
    go_enter Try.func90, Try.ntmps90
    go_upto_region 6 with (go_at_call 94; go_loud (refine (takeInfo_any _ d _ HD.out hl).mono ?_; rintro e w1 ⟨v1, he1, hs1, hf1⟩; rw [HT.out] at he1 hs1; subst he1; have c1 := hf1.cell c0 id; have HF1 := Lib.hid hf1; have HA := Lib.hid hs1; have HS1 := Lib.hid (HS.out.keep hf1 id); clear hs1 hf1))
    go_upto_region 7 with (first
      | (go_at_call 91; go_loud (refine (numbers_any _ [(0, 2)] _ (Rd.block (heap_new w1 _) rfl) (by simp) (by simp) N1.out).mono ?_; rintro e w2 ⟨v2, rfl, hF2⟩; have HF2 := Lib.hid (Makes.of hF2 ((Fr.refl _ w1).alloc _)); clear hF2))
      | (go_at_call 89; go_loud (obtain ⟨v2', e2', hF2⟩ := HF2.out; cases e2'; refine (export_any h S _ (HS1.out.keep hF2.2.2 id) hz).mono ?_; rintro e w3 ⟨v3, rfl, hF3⟩; have HF3 := Lib.hid hF3; have HG3 := Lib.hid (hF2.keep hF3.2.2); clear hF3 hF2))
      | (at_builtin; refine wpList_op rfl fun K hK => op_appB (.tmp 35) (.tmp 37) rfl rfl HG3.out rfl HF3.out.1.rd (by rw [S.exportB_len]; decide) ?_; intro v4 w4 hF4 hfr4; rw [HL4.out] at hF4; obtain ⟨a4, c4, rfl⟩ := hF4.1.form; have HF4 := Lib.hid hF4; clear hF4 hfr4; simp only [Act.put, List.setIfInBounds_toArray, List.set_cons_zero, List.set_cons_succ]; refine hK _ _ ?_))
    have HF14 : Hid (Fr (fun _ => False) w w4) := Lib.hid (HF1.out.trans HF4.out.2.2 (fun _ _ => id))
    have HR5 : Hid (Reps [(3, .slice a4 L4.length c4, L4)] w (w4.alloc (.cells #[.int .i64 3, .slice a4 L4.length c4] 119)) (.slice (some ⟨w4.heap.size, 0, none⟩) 1 1)) := Lib.hid (Reps.one HF14.out.size HF4.out.1.rd (fun g hg => Nat.le_trans HF1.out.size (HF4.out.2.1 g hg)))
    have HF15 : Hid (Fr (fun _ => False) w (w4.alloc (.cells #[.int .i64 3, .slice a4 L4.length c4] 119))) := Lib.hid (HF14.out.alloc _)
    have HA5 : Hid (Rd (w4.alloc (.cells #[.int .i64 3, .slice a4 L4.length c4] 119)) 1 v1 asked.length (nv asked)) := Lib.hid ((HA.out.rd.keep HF4.out.2.2 (fun _ _ => id)).keep ((Fr.refl (fun _ => False) w4).alloc _) (fun _ _ => id))
    generalize (w4.alloc (.cells #[.int .i64 3, .slice a4 L4.length c4] 119)) = w5 at *
    generalize w4.heap.size = b5 at *
    cases C
    · go_wp2_with (first
        | (go_at_call 95; go_loud (refine (contains_any _ asked 3 _ HA5.out (by omega)).mono ?_; rintro e w6 ⟨rfl, rfl⟩; rw [HC.out]))
        | (at_builtin; go_loud (refine wpList_op rfl fun K hK => op_appR (rl := []) (k := 1) (.tmp 53) (.tmp 55) rfl rfl HF15.out HR5.out rfl rfl rfl (Rd.nil _ _) (fun g hg => by cases hg) (by simp) ?_; intro v6 w6 hR6 hF6; have HR6 := Lib.hid hR6; have HF6 := Lib.hid hF6; clear hR6 hF6; simp only [Act.put, List.setIfInBounds_toArray, List.set_cons_zero, List.set_cons_succ]; refine hK _ _ ?_)))
      go_returns
      rw [E.out]
      exact ⟨_, rfl, ⟨_, rfl, HR6.out⟩, HF6.out⟩
    · obtain ⟨L7, hL7⟩ : ∃ L, numB [(3, 2), (64, 4), (64, 4), (1024, 4)] = L := ⟨_, rfl⟩
      rw [hL7] at E
      have HL7 := Lib.hid hL7
      clear hL7
      go_wp2_with (first
        | (go_at_call 95; go_loud (refine (contains_any _ asked 3 _ HA5.out (by omega)).mono ?_; rintro e w6 ⟨rfl, rfl⟩; rw [HC.out]))
        | (go_at_call 91; go_loud (refine (numbers_any _ [(3, 2), (64, 4), (64, 4), (1024, 4)] _ (Rd.block (heap_new w5 _) rfl) (by simp) (by simp) N2.out).mono ?_; rintro e w7 ⟨v7, rfl, hF7⟩; rw [HL7.out] at hF7; obtain ⟨a7, c7, rfl⟩ := hF7.1.form; have HF7 := Lib.hid hF7; have HG7 : Hid (∀ g, (Value.slice a7 L7.length c7).ownBlock = some g → w5.heap.size ≤ g) := Lib.hid (fun g hg => Nat.le_trans (by simp) (hF7.2.1 g hg)); have HX7 := Lib.hid (((Fr.refl (fun _ => False) w5).alloc (.cells #[.int .i64 3, .int .i64 2, .int .i64 64, .int .i64 4, .int .i64 64, .int .i64 4, .int .i64 1024, .int .i64 4] 135)).trans hF7.2.2 (fun _ _ => id)); have HR7 := Lib.hid (HR5.out.keep HX7.out (fun _ _ => id)); clear hF7))
        | (at_builtin; go_loud (refine wpList_op rfl fun K hK => op_appR (rl := L7) (k := 3) (.tmp 43) (.tmp 51) rfl rfl (HF15.out.trans HX7.out (fun _ _ => id)) HR7.out rfl rfl rfl HF7.out.1.rd (fun g hg => ⟨Nat.le_trans HF15.out.size (HG7.out g hg), fun e => absurd (HR5.out.1.lt g e) (Nat.not_lt.2 (HG7.out g hg))⟩) (by simp) ?_; intro v8 w8 hR8 hF8; obtain ⟨a8, c8, rfl⟩ := hR8.1.form; have HR8 := Lib.hid hR8; have HF8 := Lib.hid hF8; clear hR8 hF8; simp only [Act.put, List.setIfInBounds_toArray, List.set_cons_zero, List.set_cons_succ]; refine hK _ _ ?_))
        | (at_builtin; go_loud (refine wpList_op rfl fun K hK => op_appR (rl := []) (k := 1) (.tmp 53) (.tmp 55) rfl rfl HF8.out HR8.out rfl rfl rfl (Rd.nil _ _) (fun g hg => by cases hg) (by simp) ?_; intro v6 w6 hR6 hF6; have HR6 := Lib.hid hR6; have HF6 := Lib.hid hF6; clear hR6 hF6; simp only [Act.put, List.setIfInBounds_toArray, List.set_cons_zero, List.set_cons_succ]; refine hK _ _ ?_)))
      go_returns
      rw [E.out]
      exact ⟨_, rfl, ⟨_, rfl, HR6.out⟩, HF6.out⟩

theorem info_any (h : Nat) (S : Sh) (v : Value) (d : List UInt8) (w : World) (hs : ShAt w h S) (hz : (S.sectors : Int) ≤ 1000000) (hd : BV w v d) (hl : d.length ≤ 100000) :
    Calls Try.prog 90 #[.pointer (some ⟨h, 0, none⟩), v] w (InfoDone (S.infoL d) w) := by
  by_cases he : (takeInf d).2.2 = 0
  · by_cases hn : (takeInf d).1 = [] ∨ (takeInf d).1 = S.name
    · exact info_ok h S v d w hs hz hd hl he hn
    · exact info_unknown h S v d w hs hd hl he (fun e => hn (.inl e)) (fun e => hn (.inr e))
  · exact info_bad h S v d w hd hl he

end Go.Proofs.Ytpelpmhopmefoaa
