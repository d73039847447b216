/-
Walks of package shake: one message that is an option.
-/
import Derived.Test.YtpelpmhopmefoaaShake6
namespace Go.Proofs.Ytpelpmhopmefoaa
open Go.RowKit Go.Cof
set_option maxRecDepth 100000
set_option linter.unusedSimpArgs false

theorem answer_small (S : Sh) (k : Nat) (d : List UInt8) (hn : S.name.length ≤ 1000) : (S.answerL k d).1.length ≤ 3 ∧ ∀ r ∈ (S.answerL k d).1, r.1 ≤ 2147483654 ∧ r.2.length ≤ 1008 := by
  have := S.exportB_len
  have h2 : (S.infoL d).length ≤ 3 ∧ ∀ r ∈ S.infoL d, r.1 ≤ 2147483654 ∧ r.2.length ≤ 1008 := by
    unfold Sh.infoL
    repeat' split
    all_goals
      refine ⟨by simp, fun r hr => ?_⟩
      simp only [List.mem_cons, List.not_mem_nil, or_false] at hr
    · subst hr; exact ⟨by decide, by simp⟩
    · subst hr; exact ⟨by decide, by simp⟩
    · rcases hr with rfl | rfl | rfl <;> simp [numB, putB_length, this]
    · rcases hr with rfl | rfl <;> simp [numB, putB_length, this]
  unfold Sh.answerL
  repeat' split
  all_goals first
    | exact h2
    | (refine ⟨by simp, fun r hr => ?_⟩
       simp only [List.mem_cons, List.not_mem_nil, or_false] at hr
       first
         | (subst hr; exact ⟨by first | decide | simp, by simp⟩)
         | (rcases hr with rfl | rfl <;> simp [numB, putB_length] <;> omega))

theorem answer_pos (S : Sh) (k : Nat) (d : List UInt8) : 0 < (S.answerL k d).1.length := by
  have h2 : 0 < (S.infoL d).length := by
    unfold Sh.infoL
    repeat' split
    all_goals simp
  unfold Sh.answerL
  repeat' split
  all_goals first
    | exact h2
    | simp

theorem says_take_len (k n : Nat) (l : List (Nat × List UInt8)) (h : l.length ≤ 3 ∧ ∀ r ∈ l, r.1 ≤ 2147483654 ∧ r.2.length ≤ 1008) : (saysB k (l.take n)).length ≤ 4000 := by
  have key : ∀ m : List (Nat × List UInt8), (∀ r ∈ m, r.2.length ≤ 1008) → (saysB k m).length ≤ m.length * 1028 := by
    intro m
    induction m with
    | nil => intro _; simp [saysB]
    | cons r m ih =>
      intro hm
      have h1 := hm r (by simp)
      have h2 := ih (fun x hx => hm x (by simp [hx]))
      have e : saysB k (r :: m) = optReplyB k r.1 r.2 ++ saysB k m := by simp [saysB]
      rw [e, List.length_append, optReplyB_len, List.length_cons]
      omega
  have := key (l.take n) (fun r hr => (h.2 r (List.mem_of_mem_take hr)).2)
  rw [List.length_take] at this
  omega

theorem rcells_get0 {rs : List (Nat × Value × List UInt8)} {i k : Nat} {v : Value} {d : List UInt8} (h : rs[i]? = some (k, v, d)) : (rcells rs)[i * 2]? = some (.int .i64 k) := by
  induction rs generalizing i with
  | nil => simp at h
  | cons r rs ih =>
    cases i with
    | zero => simp at h; subst h; rfl
    | succ i =>
      have := ih (i := i) (by simpa using h)
      rw [show (i + 1) * 2 = i * 2 + 2 by omega]
      simpa [rcells] using this
theorem rcells_get1 {rs : List (Nat × Value × List UInt8)} {i k : Nat} {v : Value} {d : List UInt8} (h : rs[i]? = some (k, v, d)) : (rcells rs)[i * 2 + 1]? = some v := by
  induction rs generalizing i with
  | nil => simp at h
  | cons r rs ih =>
    cases i with
    | zero => simp at h; subst h; rfl
    | succ i =>
      have := ih (i := i) (by simpa using h)
      rw [show (i + 1) * 2 + 1 = i * 2 + 1 + 2 by omega]
      simpa [rcells] using this

theorem says_step {k i K : Nat} {v : Value} {d : List UInt8} {rs : List (Nat × Value × List UInt8)} {l : List (Nat × List UInt8)} (h1 : rs.map (fun r => (r.1, r.2.2)) = l) (h : rs[i]? = some (K, v, d)) : saysB k (l.take (i + 1)) = saysB k (l.take i) ++ optReplyB k K d := by
  subst h1
  rw [← List.map_take, ← List.map_take, List.take_add_one, h]
  simp [saysB]

set_option maxHeartbeats 2000000 in
theorem one_option (h : Nat) (S : Sh) (v : Value) (l : List UInt8) (w : World) (hs : ShAt w h S) (hf : S.Fine) (hp : S.phase ≠ 0) (hd : BV w v l) (hl : l.length ≤ 100000) :
    Calls Try.prog 51 #[.pointer (some ⟨h, 0, none⟩), v] w (FedDone h (S.one l) w) := by
  obtain ⟨i0, hi, hz0, hz1, hz2⟩ := info_parts Try.info5
  obtain ⟨k, d, n, er, ht⟩ : ∃ k d n er, takeOpt l = (k, d, n, er) := ⟨_, _, _, _, rfl⟩
  have E : Hid (S.one l = if er ≠ 0 then ([], l.length, { S with phase := 3 }) else if n = 0 then ([], 0, S) else ((S.optB k d).1, n, (S.optB k d).2)) := Lib.hid (by rw [Sh.one, if_neg hp, ht])
  obtain ⟨a, c, rfl⟩ := hd.form
  have c3 := hs.c3
  have hp' : ((S.phase : Int) == 0) = false := by simp; omega
  have HS := Lib.hid hs
  have HD := Lib.hid hd
  have HT := Lib.hid ht
  have HL := lt_of_heap hs
  have hkd : Hid (k ≤ 4294967295 ∧ d.length ≤ 1024 ∧ n ≤ l.length) := Lib.hid (by
    have h1 := takeOpt_le l
    have h2 := takeOpt_small l
    rw [ht] at h1 h2
    exact ⟨h2.1, h2.2, h1⟩)
  clear hs hd ht
  go_enter Try.func51, Try.ntmps51
  go_upto_region 10 with (go_at_call 71; go_loud (refine (takeOption_any _ l w HD.out (by omega)).mono ?_; rintro e w1 ⟨v1, he, hF1⟩; rw [HT.out] at he hF1; simp only at he hF1; subst he; obtain ⟨a1, c1, rfl⟩ := hF1.1.form; have HF1 := Lib.hid hF1; have HS1 := Lib.hid (HS.out.keep hF1.2.2 id); have c31 := hF1.2.2.cell c3 id; have z31 := HS1.out.z 3; clear hF1))
  have q0 : (w1.alloc (.cells #[.int .i64 k, .slice a1 d.length c1] 51)).cell? ⟨w1.heap.size, 0, none⟩ = some (.int .i64 k) := cell_of (heap_new w1 _)
  have q1 : (w1.alloc (.cells #[.int .i64 k, .slice a1 d.length c1] 51)).cell? ⟨w1.heap.size, 1, none⟩ = some (.slice a1 d.length c1) := cell_of (heap_new w1 _)
  have hf2 : Fr (fun _ => False) w (w1.alloc (.cells #[.int .i64 k, .slice a1 d.length c1] 51)) := HF1.out.2.2.alloc _
  have HB2 : Hid (BV (w1.alloc (.cells #[.int .i64 k, .slice a1 d.length c1] 51)) (.slice a1 d.length c1) d) := Lib.hid (HF1.out.1.rd.keep ((Fr.refl (fun _ => False) w1).alloc _) (fun _ _ => id))
  have HS2 := Lib.hid (HS1.out.keep ((Fr.refl (fun _ => False) w1).alloc (.cells #[.int .i64 k, .slice a1 d.length c1] 51)) id)
  have b2 : w1.heap.size < (w1.alloc (.cells #[.int .i64 k, .slice a1 d.length c1] 51)).heap.size := by simp
  have b1 : h < w1.heap.size := Nat.lt_of_lt_of_le HL HF1.out.2.2.size
  generalize (w1.alloc (.cells #[.int .i64 k, .slice a1 d.length c1] 51)) = w2 at *
  have hww : w.heap.size ≤ w1.heap.size := HF1.out.2.2.size
  clear c3 c31 z31 HS1 HF1
  generalize w1.heap.size = B at *
  have HF2 := Lib.hid hf2
  have c3 := HS2.out.c3
  have z3 := HS2.out.z 3
  clear hf2
  by_cases he : er = 0
  rotate_left
  · have he' : (er != 0) = true := by simpa using he
    rw [if_pos he] at E
    clear he
    go_wp2_with fail
    go_returns
    rw [E.out]
    exact fed_nil (phase_set 3 HS2.out rfl) ((HF2.out.mono (S' := fun j => j = h) (fun _ _ => False.elim)).setB rfl 3 _)
  rw [if_neg (by simpa using he)] at E
  have he' : (er != 0) = false := by simpa using he
  clear he
  by_cases hn : n = 0
  · have hn' : ((n : Int) == 0) = true := by simp [hn]
    rw [if_pos hn] at E
    clear hn
    go_wp2_with fail
    go_returns
    rw [E.out]
    exact fed_nil (n := 0) HS2.out (HF2.out.mono (fun _ _ => False.elim))
  rw [if_neg hn] at E
  have hn' : ((n : Int) == 0) = false := by simpa using hn
  clear hn
  have hF := Lib.hid hf
  have hz := hf.sectors
  have hnm := hf.name
  clear hf
  by_cases k1 : k = 1
  · have k1' : ((k : Int) == 1) = true := by simp [k1]
    rw [Sh.optB, if_pos k1] at E
    clear k1
    have kc := HB2.out.str (P := Try.prog) (src := 24) (dst := 9) Try.underlying24 Try.underlying5 Try.underlying9
    go_wp2_with (go_at_call 72; go_loud (refine (exportName_any h S d _ HS2.out hz).mono ?_; rintro e w3 ⟨v3, rfl, hX⟩; have HX := Lib.hid hX; clear hX))
    go_returns
    rw [E.out]
    obtain ⟨x1, x2, x3, x4⟩ := HX.out
    exact ⟨_, rfl, x1, fun g hg => Nat.le_trans HF2.out.size (x2 g hg), x3, (HF2.out.mono (S' := fun j => j = h) (fun _ _ => False.elim)).trans x4 (fun _ _ => id)⟩
  have k1' : ((k : Int) == 1) = false := by simp; omega
  rw [Sh.optB, if_neg k1] at E
  clear k1
  obtain ⟨L, S', hA⟩ : ∃ L S', S.answerL k d = (L, S') := ⟨_, _, rfl⟩
  have hsm := answer_small S k d hnm
  have hps := answer_pos S k d
  rw [hA] at hsm hps E
  simp only at hsm hps E
  obtain ⟨m, hm⟩ : ∃ m, L.length = m := ⟨_, rfl⟩
  rw [hm] at hsm hps
  have hm3 : m ≤ 3 := hsm.1
  have HA := Lib.hid hA
  have HSM := Lib.hid hsm
  have HM := Lib.hid hm
  clear hA hsm hm
  go_wp2_with (go_at_call 73; go_loud (refine (answer_any h S k _ d _ HS2.out hz (by omega) HB2.out (by have := hkd.out.2.1; omega)).mono ?_; rintro e w3 ⟨v3, rfl, ⟨rs, h1, h2, h3, h4⟩, hS3, hF3⟩; rw [HA.out] at h1 hS3; simp only at h1 hS3; have hrl : rs.length = m := (by rw [← HM.out, ← h1, List.length_map]); rw [hrl] at h2; have HRL := Lib.hid hrl; clear hrl; obtain ⟨a3, cc3, rfl⟩ := h2.form; have H1 := Lib.hid h1; have H2 := Lib.hid h2; have H3 := Lib.hid h3; have H4 := Lib.hid h4; have HS3 := Lib.hid hS3; have HF3 := Lib.hid hF3; have hBh : B ≠ h := Nat.ne_of_gt b1; have q0' := hF3.cell q0 hBh; have q1' := hF3.cell q1 hBh; have b2' := Nat.lt_of_lt_of_le b2 hF3.size; clear h1 h2 h3 h4 hS3 hF3))
  obtain ⟨g, o, rfl, P3⟩ : ∃ g o, a3 = some ⟨g, o, none⟩ ∧ Hid (g < w3.heap.size ∧ ∀ j u, (rcells rs)[j]? = some u → w3.cell? ⟨g, o + j, none⟩ = some u) := by
    obtain ⟨a', c', e, _, _, p2, p3⟩ := H2.out.rd
    cases e
    cases a3 with
    | none => have := (p2 rfl).1; omega
    | some b =>
      obtain ⟨g, o, s⟩ := b
      obtain ⟨q1, q2, q3⟩ := p3 _ rfl
      simp only at q1
      subst q1
      exact ⟨g, o, rfl, Lib.hid ⟨q2, q3⟩⟩
  clear q0 q1 c3 z3
  go_loopw [11, 73] (fun v i wr => ∃ j : Nat, j ≤ m ∧ i = .int .i64 j ∧ FreshBytes w3 wr (saysB k (L.take j)) v) (fun _ i _ => m - (intOf i).toNat)
  case atStart => exact ⟨0, Nat.zero_le _, rfl, by simp [saysB]; exact ⟨Sl.nil _ _ _, (fun g hg => by cases hg), Fr.refl _ _⟩⟩
  case round =>
    obtain ⟨j, hj, rfl, hFj⟩ := hrel
    have q0 := hFj.2.2.cell q0' id
    have b3 := Nat.lt_of_lt_of_le b2' hFj.2.2.size
    by_cases hlt : j < m
    · obtain ⟨K, rv, rl, hr⟩ : ∃ K rv rl, rs[j]? = some (K, rv, rl) := ⟨_, _, _, List.getElem?_eq_getElem (by rw [HRL.out]; exact hlt)⟩
      have hmem := List.mem_of_getElem? hr
      have hLm : (K, rl) ∈ L := by rw [← H1.out]; exact List.mem_map.2 ⟨_, hmem, rfl⟩
      have r0 := hFj.2.2.cell (P3.out.2 _ _ (rcells_get0 hr)) id
      have r1 : wr.cell? ⟨g, o + j * 2 + 1, none⟩ = some rv := by
        have := hFj.2.2.cell (P3.out.2 _ _ (rcells_get1 hr)) id
        rw [← Nat.add_assoc] at this
        exact this
      have hgr := Nat.lt_of_lt_of_le P3.out.1 hFj.2.2.size
      have hB : BV wr rv rl := (H4.out _ hmem).1.keep hFj.2.2 (fun _ _ => id)
      obtain ⟨ar, cr, rfl⟩ := hB.form
      have hbd := HSM.out.2 _ hLm
      simp only at hbd
      obtain ⟨hK, hrlen⟩ := hbd
      have hLen := says_take_len k j L (by rw [HM.out]; exact HSM.out)
      obtain ⟨L0, hL0⟩ : ∃ l, saysB k (L.take j) = l := ⟨_, rfl⟩
      rw [hL0] at hFj hLen
      have HL0 := Lib.hid hL0
      obtain ⟨av, cv, rfl⟩ := hFj.1.form
      have HK := Lib.hid hFj
      have HR := Lib.hid hr
      have HB := Lib.hid hB
      have hkk := hkd.out.1
      have HC := Lib.hid hrlen
      clear hL0 hFj hr hB hmem hLm hrlen
      go_wp2_with (first
        | (go_at_call 74; go_loud (refine (optionReply_any k K _ rl _ (by omega) (by omega) (HB.out.keep (S := fun _ => False) (by repeat' (first | with_reducible exact Fr.refl _ _ | with_reducible assumption | with_reducible refine Fr.drew ?_ | with_reducible refine Fr.alloc ?_ _)) (fun _ _ => id)) (by have := HC.out; omega)).mono ?_; rintro e w4 ⟨v4, rfl, hF4⟩; obtain ⟨a4, c4, rfl⟩ := hF4.1.form; have HF4 := Lib.hid hF4; have HK4 := Lib.hid (HK.out.keep (((Fr.refl (fun _ => False) wr).alloc _).trans hF4.2.2 (fun _ _ => id))); clear hF4))
        | (at_builtin; go_loud (refine wpList_op rfl fun K hK => op_appB (.tmp 77) (.tmp 84) rfl rfl HK4.out rfl HF4.out.1.rd (by rw [optReplyB_len]; have := HC.out; omega) ?_; intro v5 w5 hF5 _; have HF5 := Lib.hid hF5; clear hF5; simp only [Act.put, List.setIfInBounds_toArray, List.set_cons_zero, List.set_cons_succ]; refine hK _ _ ?_)))
      go_roundw
      case rel =>
        refine ⟨j + 1, by omega, by go_num, ?_⟩
        rw [says_step H1.out HR.out, HL0.out]
        exact HF5.out
      case measure => simp [intOf]; omega
    · have hjm : j = m := by omega
      obtain ⟨av, cv, rfl⟩ := hFj.1.form
      have HK := Lib.hid hFj
      clear hFj q0
      go_wp2_with fail
      go_returns
      have hke : L.take j = L := List.take_of_length_le (by rw [HM.out]; omega)
      have hK := HK.out
      rw [hke] at hK
      rw [E.out]
      have F3 := (HF2.out.mono (S' := fun j => j = h) (fun _ _ => False.elim)).trans HF3.out (fun _ _ => id)
      refine ⟨_, rfl, ?_, fun g hg => Nat.le_trans F3.size (HK.out.2.1 g hg), HS3.out.keep hK.2.2 id, F3.trans hK.2.2 (fun _ _ => False.elim)⟩
      have := hK.1
      rw [hke]
      exact this

theorem one_any (h : Nat) (S : Sh) (v : Value) (l : List UInt8) (w : World) (hs : ShAt w h S) (hf : S.Fine) (hd : BV w v l) (hl : l.length ≤ 100000) :
    Calls Try.prog 51 #[.pointer (some ⟨h, 0, none⟩), v] w (FedDone h (S.one l) w) := by
  by_cases hp : S.phase = 0
  · exact one_flags h S v l w hs hp hd
  · exact one_option h S v l w hs hf hp hd hl

end Go.Proofs.Ytpelpmhopmefoaa
