/-
What a handshake says has a form: plain laws. No walk.
-/
import Derived.Test.YtpelpmhopmefoaaBitsP
namespace Go.Proofs.Ytpelpmhopmefoaa
open Go.RowKit Go.Cof
set_option linter.unusedSimpArgs false

def known (k : Nat) : Prop := k = 1 ∨ k = 2 ∨ k = 3 ∨ k = repUnsup ∨ k = repInvalid ∨ k = repUnknown
def rowsB (rows : List (Nat × Nat × List UInt8)) : List UInt8 := rows.flatMap fun r => optReplyB r.1 r.2.1 r.2.2
def GoodRows (rows : List (Nat × Nat × List UInt8)) : Prop := ∀ r ∈ rows, known r.2.1 ∧ r.2.2.length ≤ 1008
def Tail (S S' : Sh) (t : List UInt8) : Prop := t = [] ∨ (S'.phase = 2 ∧ (t = S.exportB ∨ t = S.exportB ++ List.replicate 124 0))
def Formed (S : Sh) (r : List UInt8 × Nat × Sh) : Prop := (∃ rows t, r.1 = rowsB rows ++ t ∧ GoodRows rows ∧ Tail S r.2.2 t) ∧ r.2.2.exportB = S.exportB ∧ r.2.2.name = S.name

theorem answer_known (S : Sh) (k : Nat) (d : List UInt8) : ∀ r ∈ (S.answerL k d).1, known r.1 := by
  have h2 : ∀ r ∈ S.infoL d, known r.1 := by
    unfold Sh.infoL
    repeat' split
    all_goals
      intro r hr
      simp only [List.mem_cons, List.not_mem_nil, or_false] at hr
    · subst hr; simp [known]
    · subst hr; simp [known]
    · rcases hr with rfl | rfl | rfl <;> simp [known]
    · rcases hr with rfl | rfl <;> simp [known]
  unfold Sh.answerL
  repeat' split
  all_goals first
    | exact h2
    | (intro r hr
       simp only [List.mem_cons, List.not_mem_nil, or_false] at hr
       first
         | (subst hr; simp [known]; done)
         | (rcases hr with rfl | rfl <;> simp [known]))
theorem says_rows (k : Nat) (l : List (Nat × List UInt8)) : saysB k l = rowsB (l.map fun r => (k, r.1, r.2)) := by
  simp [saysB, rowsB, List.flatMap_map]
theorem answer_same (S : Sh) (k : Nat) (d : List UInt8) : (S.answerL k d).2.exportB = S.exportB ∧ (S.answerL k d).2.name = S.name := by
  unfold Sh.answerL
  repeat' split
  all_goals exact ⟨rfl, rfl⟩

theorem one_formed {S : Sh} (hf : S.Fine) (l : List UInt8) : Formed S (S.one l) := by
  unfold Sh.one
  repeat' split
  · exact ⟨⟨[], [], rfl, by simp [GoodRows], .inl rfl⟩, rfl, rfl⟩
  · exact ⟨⟨[], [], rfl, by simp [GoodRows], .inl rfl⟩, rfl, rfl⟩
  · exact ⟨⟨[], [], rfl, by simp [GoodRows], .inl rfl⟩, rfl, rfl⟩
  · exact ⟨⟨[], [], rfl, by simp [GoodRows], .inl rfl⟩, rfl, rfl⟩
  · exact ⟨⟨[], [], rfl, by simp [GoodRows], .inl rfl⟩, rfl, rfl⟩
  · obtain ⟨k, d, n, er, ht⟩ : ∃ k d n er, takeOpt l = (k, d, n, er) := ⟨_, _, _, _, rfl⟩
    rw [ht]
    simp only
    unfold Sh.optB
    split
    · unfold Sh.nameB
      split
      · exact ⟨⟨[], [], rfl, by simp [GoodRows], .inl rfl⟩, rfl, rfl⟩
      · refine ⟨⟨[], _, (List.nil_append _).symm, by simp [GoodRows], .inr ⟨rfl, ?_⟩⟩, rfl, rfl⟩
        simp only
        split
        · left; simp
        · right; rfl
    · have h1 := answer_small S k d hf.name
      have h2 := answer_known S k d
      obtain ⟨h3, h4⟩ := answer_same S k d
      refine ⟨⟨(S.answerL k d).1.map fun r => (k, r.1, r.2), [], by rw [List.append_nil]; exact says_rows _ _, ?_, .inl rfl⟩, h3, h4⟩
      intro r hr
      obtain ⟨x, hx, rfl⟩ := List.mem_map.1 hr
      exact ⟨h2 x hx, (h1.2 x hx).2⟩

theorem feed_formed {S : Sh} (hf : S.Fine) (l : List UInt8) : Formed S (S.feed l) := by
  suffices h : ∀ (n : Nat) (S : Sh) (l : List UInt8), l.length = n → S.Fine → Formed S (S.feed l) from h _ S l rfl hf
  intro n
  induction n using Nat.strongRecOn with
  | ind n ih =>
    intro S l hl hf
    by_cases hp : S.phase < 2
    · have h1 := one_formed hf l
      by_cases h0 : 0 < (S.one l).2.1
      · rw [Sh.feed_go hp h0]
        have hle := S.one_le l
        have h2 := ih (l.drop (S.one l).2.1).length (by rw [List.length_drop]; omega) (S.one l).2.2 (l.drop (S.one l).2.1) rfl (Sh.one_fine hf l)
        obtain ⟨⟨r1, t1, e1, g1, k1⟩, x1, y1⟩ := h1
        obtain ⟨⟨r2, t2, e2, g2, k2⟩, x2, y2⟩ := h2
        refine ⟨?_, x2.trans x1, y2.trans y1⟩
        rcases k1 with rfl | ⟨kp, k1⟩
        · refine ⟨r1 ++ r2, t2, ?_, ?_, ?_⟩
          · simp only
            rw [e1, e2]
            simp [rowsB]
          · intro r hr
            rcases List.mem_append.1 hr with h | h
            · exact g1 r h
            · exact g2 r h
          · rcases k2 with rfl | ⟨kp2, k2⟩
            · exact .inl rfl
            · rw [x1] at k2
              exact .inr ⟨kp2, k2⟩
        · have ho : ¬ (S.one l).2.2.phase < 2 := by omega
          rw [Sh.feed_over ho]
          exact ⟨r1, t1, by simp only [List.append_nil]; exact e1, g1, .inr ⟨kp, k1⟩⟩
      · rw [Sh.feed_stop hp (by omega)]
        exact h1
    · rw [Sh.feed_over hp]
      exact ⟨⟨[], [], rfl, by simp [GoodRows], .inl rfl⟩, rfl, rfl⟩

/-! ### Reading rows -/
theorem UInt8_mod (n : Nat) : (UInt8.ofNat n).toNat = n % 256 := UInt8.toNat_ofNat'
theorem getN_put4 (n : Nat) (h : n < 256 ^ 4) : getN (putB n 4) = n := by
  have e : putB n 4 = [UInt8.ofNat (n / 256 ^ 3), UInt8.ofNat (n / 256 ^ 2), UInt8.ofNat (n / 256), UInt8.ofNat n] := by simp [putB, List.range_succ]
  rw [e]
  simp only [getN, List.foldl_cons, List.foldl_nil, UInt8_mod]
  omega
theorem getN_put8 (n : Nat) (h : n < 256 ^ 8) : getN (putB n 8) = n := by
  have e : putB n 8 = [UInt8.ofNat (n / 256 ^ 7), UInt8.ofNat (n / 256 ^ 6), UInt8.ofNat (n / 256 ^ 5), UInt8.ofNat (n / 256 ^ 4), UInt8.ofNat (n / 256 ^ 3), UInt8.ofNat (n / 256 ^ 2), UInt8.ofNat (n / 256), UInt8.ofNat n] := by simp [putB, List.range_succ]
  rw [e]
  simp only [getN, List.foldl_cons, List.foldl_nil, UInt8_mod]
  omega

theorem known_lt {k : Nat} (h : known k) : k < 256 ^ 4 := by
  rcases h with rfl | rfl | rfl | rfl | rfl | rfl <;> decide

theorem reply_parts (o k : Nat) (d : List UInt8) : optReplyB o k d = ansHead ++ (putB (o % 256 ^ 4) 4 ++ (putB (k % 256 ^ 4) 4 ++ (putB (d.length % 256 ^ 4) 4 ++ d))) := by
  simp only [optReplyB, fieldB, List.flatMap_cons, List.flatMap_nil, List.append_nil, List.append_assoc]
theorem row_head (o k : Nat) (d X : List UInt8) : (optReplyB o k d ++ X).take 8 = ansHead := by
  rw [reply_parts, List.append_assoc]
  exact List.take_left' rfl
theorem row_kind (o k : Nat) (d X : List UInt8) (hk : k < 256 ^ 4) : getN (((optReplyB o k d ++ X).drop 12).take 4) = k := by
  have e : ((optReplyB o k d ++ X).drop 12).take 4 = putB k 4 := by
    rw [reply_parts, Nat.mod_eq_of_lt hk]
    simp only [List.append_assoc]
    rw [show (12 : Nat) = ansHead.length + 4 from rfl, ← List.drop_drop, List.drop_left, List.drop_left' (putB_length _ 4)]
    exact List.take_left' (putB_length _ 4)
  rw [e, getN_put4 k hk]
theorem row_len (o k : Nat) (d X : List UInt8) (hd : d.length < 256 ^ 4) : getN (((optReplyB o k d ++ X).drop 16).take 4) = d.length := by
  have e : ((optReplyB o k d ++ X).drop 16).take 4 = putB d.length 4 := by
    rw [reply_parts, Nat.mod_eq_of_lt hd]
    simp only [List.append_assoc]
    rw [show (16 : Nat) = ansHead.length + 4 + 4 from rfl, ← List.drop_drop, ← List.drop_drop, List.drop_left, List.drop_left' (putB_length _ 4), List.drop_left' (putB_length _ 4)]
    exact List.take_left' (putB_length _ 4)
  rw [e, getN_put4 _ hd]
theorem export_size {S : Sh} (X : List UInt8) (h : S.sectors ≤ 1000000) : getN ((S.exportB ++ X).take 8) = S.sectors * 64 := by
  have e : (S.exportB ++ X).take 8 = putB (S.sectors * 64) 8 := by
    simp only [Sh.exportB, numB, List.flatMap_cons, List.flatMap_nil, List.append_nil, List.append_assoc]
    exact List.take_left' (putB_length _ 8)
  rw [e, getN_put8 _ (by omega)]
theorem export_head {S : Sh} (X : List UInt8) (h : S.sectors ≤ 1000000) : ¬ (S.exportB ++ X).take 8 = ansHead := by
  intro e
  have h1 := export_size X h
  rw [e] at h1
  have h2 : 100000000000 ≤ getN ansHead := by decide
  omega

/-- What stands behind a place in what is said. -/
structure FormRel (S SR : Sh) (ol : List UInt8) (at' : Nat) : Prop where
  le : at' ≤ ol.length
  rest : ∃ rows t, ol.drop at' = rowsB rows ++ t ∧ GoodRows rows ∧ Tail S SR t

theorem FormRel.row {S SR : Sh} {ol : List UInt8} {at' : Nat} (h : FormRel S SR ol at') :
    (∃ k m, known k ∧ m ≤ 1008 ∧ at' + 20 + m ≤ ol.length ∧ (ol.drop at').take 8 = ansHead ∧ getN ((ol.drop (at' + 12)).take 4) = k ∧ getN ((ol.drop (at' + 16)).take 4) = m ∧ FormRel S SR ol (at' + 20 + m)) ∨ Tail S SR (ol.drop at') := by
  obtain ⟨hle, rows, t, e, hg, ht⟩ := h
  cases rows with
  | nil =>
    right
    rw [e]
    exact ht
  | cons r rows =>
    left
    obtain ⟨o, k, d⟩ := r
    obtain ⟨hk, hd⟩ := hg (o, k, d) (by simp)
    simp only at hk hd
    have e2 : rowsB ((o, k, d) :: rows) ++ t = optReplyB o k d ++ (rowsB rows ++ t) := by simp [rowsB]
    rw [e2] at e
    have hl := congrArg List.length e
    rw [List.length_drop, List.length_append, optReplyB_len] at hl
    refine ⟨k, d.length, hk, hd, by omega, by rw [e]; exact row_head _ _ _ _, ?_, ?_, ⟨by omega, rows, t, ?_, fun x hx => hg x (by simp [hx]), ht⟩⟩
    · rw [← List.drop_drop, e]
      exact row_kind _ _ _ _ (known_lt hk)
    · rw [← List.drop_drop, e]
      exact row_len _ _ _ _ (by omega)
    · rw [show at' + 20 + d.length = at' + (20 + d.length) by omega, ← List.drop_drop, e]
      exact List.drop_left' (by rw [optReplyB_len])

end Go.Proofs.Ytpelpmhopmefoaa
