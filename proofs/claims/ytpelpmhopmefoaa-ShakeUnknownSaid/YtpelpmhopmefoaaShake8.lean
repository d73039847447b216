/-
Walks of package shake: Feed, New, Phase, Structured.
-/
import Derived.Test.YtpelpmhopmefoaaShake7
namespace Go.Proofs.Ytpelpmhopmefoaa
open Go.RowKit Go.Cof
set_option maxRecDepth 100000
set_option linter.unusedSimpArgs false

/-- Bytes of the call's own. -/
def Own (w w' : World) (l : List UInt8) (v : Value) : Prop := Sl w' 5 1 v l.length (bv l) ∧ ∀ g, v.ownBlock = some g → w.heap.size ≤ g
theorem Own.nil (w w' : World) : Own w w' [] (.slice none 0 0) := ⟨Sl.nil _ _ _, fun g hg => by cases hg⟩
theorem Own.keep {w w1 w2 : World} {l : List UInt8} {v : Value} {K : Nat → Prop} (h : Own w w1 l v) (hf : Fr K w1 w2) (hK : ∀ g, w.heap.size ≤ g → ¬ K g) : Own w w2 l v :=
  ⟨h.1.keep hf (fun g hg => hK g (h.2 g hg)), h.2⟩
theorem Own.append {w w1 w2 : World} {l d : List UInt8} {v v' : Value} (h : Own w w1 l v) (hs : w.heap.size ≤ w1.heap.size) (hap : Appended w1 w2 5 1 v v' (l.length + d.length) (bv l ++ bv d)) : Own w w2 (l ++ d) v' := by
  refine ⟨by rw [List.length_append, bv_append]; exact hap.sl, fun g hg => ?_⟩
  rcases hap.own g hg with e | e
  · exact h.2 g e
  · omega
/-- 'append(a, b...)' of bytes, a the call's own. -/
theorem op_appO {o : Oper} {a : Act} {W w : World} {K : Act → World → Prop} {Q : Exit → Act → World → Prop} (s x : Operand)
    (ho : o.op = .call { callee := .builtin .append, args := #[s, x], argTypes := #[24, 24] }) {v1 v2 : Value} {L1 L2 : List UInt8} (h1 : a.eval s = v1) (hF : Own W w L1 v1) (hs : W.heap.size ≤ w.heap.size) (h2 : a.eval x = v2) (hB : BV w v2 L2) (hl : L1.length + L2.length ≤ 100000000000)
    (h : ∀ v' w', Own W w' (L1 ++ L2) v' → Fr (fun k => v1.ownBlock = some k) w w' → K (a.put o.dst v') w') : Oper.wp Try.prog o a w K Q := by
  obtain ⟨i0, hi, hz0, hz1, hz2⟩ := info_parts Try.info5
  exact op_append s x 24 24 ho 5 i0 (.int .u8 0) 1 1 Try.underlying24 hi hz0 hz1 hz2 rfl (by decide) v1 L1.length (bv L1) h1 hF.1 v2 L2.length (bv L2) h2 (hB.src Try.underlying24 (bv_one L2)) (by unfold maxLen; omega) (by omega)
    (fun v' w' hap => h v' w' (hF.append hs hap) hap.fr)

theorem BV.len {w : World} {a : Option Addr} {n c : Nat} {l : List UInt8} (h : BV w (.slice a n c) l) : n = l.length ∧ n ≤ c := by
  obtain ⟨_, _, e, h1, _⟩ := id h
  cases e
  exact ⟨rfl, h1⟩
theorem BV.from_all {w : World} {a : Option Addr} {n c : Nat} {l : List UInt8} (h : BV w (.slice a n c) l) (m : Nat) (hm : m ≤ l.length) (hc : c = m) : BV w (.slice a (l.length - m) 0) (l.drop m) := by
  obtain ⟨e1, e2⟩ := h.len
  have h0 := h.take 0 (by omega)
  have e : l.drop m = [] := List.drop_of_length_le (by omega)
  rw [e]
  obtain ⟨a', c', e, h1, h2, h3, h4⟩ := h0
  cases e
  refine ⟨_, _, by rw [show l.length - m = 0 by omega]; rfl, by simp, by simp [bv], fun ha => ⟨rfl, rfl⟩, fun b hb => ?_⟩
  subst hb
  obtain ⟨q1, q2, _⟩ := h4 _ rfl
  exact ⟨q1, q2, fun j u hu => by simp [bv] at hu⟩
theorem BV.from_on {w : World} {a : Option Addr} {n c : Nat} {l : List UInt8} (h : BV w (.slice a n c) l) (m : Nat) (hm : m ≤ l.length) (hc : ¬ c = m) : BV w (.slice (a.map fun x => x.add m) (l.length - m) (c - m)) (l.drop m) := by
  rcases h.cases with ⟨e, rfl⟩ | ⟨g, o, c', e, _⟩
  · cases e
    simp at hm
    omega
  · cases e
    have := h.drop m hm
    simpa [Addr.add_lit] using this

theorem feed_step {S S' : Sh} {l ol : List UInt8} {u : Nat} (hp : S'.phase < 2) (h : S.feed l = (ol ++ (S'.feed (l.drop u)).1, u + (S'.feed (l.drop u)).2.1, (S'.feed (l.drop u)).2.2)) (hn : 0 < (S'.one (l.drop u)).2.1) :
    S.feed l = ((ol ++ (S'.one (l.drop u)).1) ++ ((S'.one (l.drop u)).2.2.feed (l.drop (u + (S'.one (l.drop u)).2.1))).1, u + (S'.one (l.drop u)).2.1 + ((S'.one (l.drop u)).2.2.feed (l.drop (u + (S'.one (l.drop u)).2.1))).2.1, ((S'.one (l.drop u)).2.2.feed (l.drop (u + (S'.one (l.drop u)).2.1))).2.2) := by
  rw [Sh.feed_go hp hn] at h
  rw [h, List.drop_drop, List.append_assoc, Nat.add_assoc]

theorem feed_nobody (v : Value) (w : World) : Calls Try.prog 20 #[.pointer none, v] w fun e w' => e = .returned (.tuple #[.slice none 0 0, .int .i64 0]) ∧ w = w' := by
  go_enter Try.func20, Try.ntmps20
  go_wp2_with fail
  refine wp_loop_rounds 1 ?_
  rw [rounds_succ]
  go_wp2_with fail
  go_returns
  exact ⟨rfl, rfl⟩

set_option maxHeartbeats 1000000 in
theorem feed_any (h : Nat) (S : Sh) (v : Value) (l : List UInt8) (w : World) (hs : ShAt w h S) (hf : S.Fine) (hd : BV w v l) (hl : l.length ≤ 100000) (hvh : ∀ g, v.ownBlock = some g → g ≠ h) :
    Calls Try.prog 20 #[.pointer (some ⟨h, 0, none⟩), v] w (FedDone h (S.feed l) w) := by
  have HL := lt_of_heap hs
  have HS := Lib.hid hs
  have HD := Lib.hid hd
  have HF := Lib.hid hf
  have HV := Lib.hid hvh
  obtain ⟨a, c, rfl⟩ := hd.form
  clear hs hf hd hvh
  go_enter Try.func20, Try.ntmps20
  go_wp2_with fail
  go_loopw [6, 7] (fun out used wr => ∃ (ol : List UInt8) (u : Nat) (S' : Sh), used = .int .i64 u ∧ u ≤ l.length ∧ ol.length ≤ 200 * u ∧ S.feed l = (ol ++ (S'.feed (l.drop u)).1, u + (S'.feed (l.drop u)).2.1, (S'.feed (l.drop u)).2.2) ∧ S'.Fine ∧ Own w wr ol out ∧ ShAt wr h S' ∧ Fr (fun k => k = h) w wr) (fun _ u _ => l.length - (intOf u).toNat)
  case atStart => exact ⟨[], 0, S, rfl, Nat.zero_le _, by simp, by simp, HF.out, Own.nil _ _, HS.out, Fr.refl _ _⟩
  case round =>
    obtain ⟨ol, u, S', rfl, hu, hol, hE, hF', hO, hS', hFr⟩ := hrel
    have c3 := hS'.c3
    obtain ⟨ao, co, rfl⟩ := hO.1.form
    have HE := Lib.hid hE
    have HFI := Lib.hid hF'
    have HO := Lib.hid hO
    have HS' := Lib.hid hS'
    have HFr := Lib.hid hFr
    clear hE hF' hO hS' hFr
    by_cases hp : S'.phase < 2
    · have hp' : (S'.phase : Int) < 2 := by omega
      obtain ⟨sd, n1, S2, hr⟩ : ∃ sd n1 S2, S'.one (l.drop u) = (sd, n1, S2) := ⟨_, _, _, rfl⟩
      have hle := S'.one_le (l.drop u)
      have hsl := S'.one_len HFI.out (l.drop u)
      have hfi := S'.one_fine HFI.out (l.drop u)
      rw [hr] at hle hsl hfi
      rw [List.length_drop] at hle
      simp only at hle hsl hfi
      have HR := Lib.hid hr
      have HFI2 := Lib.hid hfi
      have hdl : (l.drop u).length ≤ 100000 := by rw [List.length_drop]; omega
      have HDL := Lib.hid hdl
      have HD' := Lib.hid (HD.out.keep HFr.out (fun g hg e => HV.out g hg e))
      clear hr hfi hdl
      rcases Decidable.em (c = u) with hcu | hcu
      all_goals
        first
          | (have HB := Lib.hid (BV.from_all HD'.out u hu hcu)
             have hcu1 : c ≤ u := Nat.le_of_eq hcu
             have hcu2 : u ≤ c := Nat.le_of_eq hcu.symm
             clear hcu)
          | have HB := Lib.hid (BV.from_on HD'.out u hu hcu)
        rcases Decidable.em (n1 = 0) with hn1 | hn1
      all_goals
        first
          | have hn1' : ((n1 : Int) == 0) = true := by simp [hn1]
          | have hn1' : ((n1 : Int) == 0) = false := by simpa using hn1
        have HN1 := Lib.hid hn1
        clear hn1
        go_wp2_with (first
          | (go_at_call 51; go_loud (refine (one_any h S' _ (l.drop u) wr HS'.out HFI.out HB.out HDL.out).mono ?_; rintro e w2 ⟨v2, he, hS2, hO2, hA2, hF2⟩; rw [HR.out] at he hS2 hA2; simp only at he hS2 hA2; subst he; obtain ⟨a2, c2, rfl⟩ := hS2.form; have HX2 := Lib.hid hS2; have HO2 := Lib.hid hO2; have HA2 := Lib.hid hA2; have HF2 := Lib.hid hF2; have HOO := Lib.hid (HO.out.keep hF2 (fun g hg e => by subst e; exact absurd HL (Nat.not_lt.2 hg))); clear hS2 hO2 hA2 hF2))
          | (at_builtin; go_loud (refine wpList_op rfl fun K hK => op_appO (.tmp 27) (.tmp 28) rfl rfl HOO.out (Nat.le_trans HFr.out.size HF2.out.size) rfl HX2.out.rd (by omega) ?_; intro v3 w3 hO3 hF3; have HO3 := Lib.hid hO3; have HF3 := Lib.hid hF3; clear hO3 hF3; simp only [Act.put, List.setIfInBounds_toArray, List.set_cons_zero, List.set_cons_succ]; refine hK _ _ ?_)))
        have hA3 := HA2.out.keep HF3.out (fun e => absurd HL (Nat.not_lt.2 (HOO.out.2 h e)))
        have hF03 := (HFr.out.trans HF2.out (fun _ _ => id)).trans HF3.out (fun j hj e => absurd hj (Nat.not_lt.2 (HOO.out.2 j e)))
        first
          | (go_returns
             have e := HE.out
             rw [Sh.feed_stop hp (by rw [HR.out]; exact HN1.out), HR.out] at e
             rw [e]
             have e0 := HN1.out
             subst e0
             exact ⟨_, rfl, HO3.out.1, HO3.out.2, hA3, hF03⟩)
          | (go_roundw
             case rel =>
               have e := feed_step hp HE.out (by rw [HR.out]; exact Nat.pos_of_ne_zero HN1.out)
               rw [HR.out] at e
               have hb1 : u + n1 ≤ l.length := by omega
               have hb2 : (ol ++ sd).length ≤ 200 * (u + n1) := by rw [List.length_append]; omega
               first
                 | exact ⟨ol ++ sd, u + n1, S2, rfl, hb1, hb2, e, HFI2.out, HO3.out, hA3, hF03⟩
                 | ((repeat apply Exists.intro); exact ⟨⟨ol ++ sd, u + n1, S2, rfl, hb1, hb2, e, HFI2.out, HO3.out, hA3, hF03⟩, rfl⟩)
             case measure =>
               have := HN1.out
               simp [intOf]
               omega)
    · have hp' : ¬ (S'.phase : Int) < 2 := by omega
      go_wp2_with fail
      go_returns
      rw [HE.out, Sh.feed_over hp]
      simp only [List.append_nil, Nat.add_zero]
      exact ⟨_, rfl, HO.out.1, HO.out.2, HS'.out, HFr.out⟩

end Go.Proofs.Ytpelpmhopmefoaa
