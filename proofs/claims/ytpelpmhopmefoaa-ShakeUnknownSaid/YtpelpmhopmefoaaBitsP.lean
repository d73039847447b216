/-
A handshake fed in pieces: plain laws. No walk.
-/
import Derived.Test.YtpelpmhopmefoaaOver
namespace Go.Proofs.Ytpelpmhopmefoaa
open Go.RowKit Go.Cof
set_option linter.unusedSimpArgs false

theorem beginsB_false {l s : List UInt8} {k : Nat} (h : beginsB (l.take k) s = false) : beginsB l s = false := by
  cases hb : beginsB l s with
  | false => rfl
  | true =>
    rw [beginsB, beq_iff_eq] at hb
    have : beginsB (l.take k) s = true := by
      rw [beginsB, beq_iff_eq, List.length_take, List.take_take]
      have e := congrArg (List.take (min (min k l.length) s.length)) hb
      rw [List.take_take, List.take_take] at e
      rw [show min (min (min k l.length) s.length) k = min (min (min k l.length) s.length) (min l.length s.length) by omega, e]
      congr 1
      omega
    rw [this] at h
    cases h
theorem beginsB_nil (s : List UInt8) : beginsB [] s = true := by simp [beginsB]
theorem drop_take_take (l : List UInt8) {a b k : Nat} (h : a + b ≤ k) : ((l.take k).drop a).take b = (l.drop a).take b := by
  rw [List.drop_take, List.take_take, Nat.min_eq_left (by omega)]

theorem takeOpt_empty : takeOpt [] = (0, [], 0, 0) := by simp [takeOpt, beginsB_nil]
/-- What a beginning tells of an option. -/
theorem takeOpt_ext (l : List UInt8) (k : Nat) (hk : k ≤ l.length) :
    ((takeOpt (l.take k)).2.2.2 ≠ 0 ∧ (takeOpt l).2.2.2 ≠ 0) ∨ ((takeOpt (l.take k)).2.2.2 = 0 ∧ (takeOpt (l.take k)).2.2.1 = 0) ∨ takeOpt l = takeOpt (l.take k) := by
  have hl : (l.take k).length = k := by rw [List.length_take]; omega
  cases hb : beginsB (l.take k) haveOpt with
  | false =>
    left
    have hb2 := beginsB_false hb
    simp [takeOpt, hb, hb2]
  | true =>
    by_cases h16 : k < 16
    · right; left
      simp [takeOpt, hb, hl, h16]
    · have e12 : ((l.take k).drop 12).take 4 = (l.drop 12).take 4 := drop_take_take l (by omega)
      have e8 : ((l.take k).drop 8).take 4 = (l.drop 8).take 4 := drop_take_take l (by omega)
      have hb2 : beginsB l haveOpt = true := by
        rw [beginsB, beq_iff_eq, hl] at hb
        rw [beginsB, beq_iff_eq]
        rw [show (haveOpt : List UInt8).length = 8 from rfl] at *
        rw [Nat.min_eq_right (by omega)] at hb ⊢
        rw [List.take_take, Nat.min_eq_left (by omega)] at hb
        exact hb
      by_cases hbig : 1024 < getN ((l.drop 12).take 4)
      · left
        simp [takeOpt, hb, hb2, hl, h16, e12, hbig, show ¬ l.length < 16 by omega]
      · by_cases hfew : k < 16 + getN ((l.drop 12).take 4)
        · right; left
          simp [takeOpt, hb, hl, h16, e12, hbig, hfew]
        · right; right
          have e16 : ((l.take k).drop 16).take (getN ((l.drop 12).take 4)) = (l.drop 16).take (getN ((l.drop 12).take 4)) := drop_take_take l (by omega)
          simp [takeOpt, hb, hb2, hl, h16, e12, e8, hbig, hfew, e16, show ¬ l.length < 16 by omega, show ¬ l.length < 16 + getN ((l.drop 12).take 4) by omega]

theorem Sh.one_zero {S : Sh} {l : List UInt8} (h : (S.one l).2.1 = 0) : S.one l = ([], 0, S) := by
  by_cases hp : S.phase = 0
  · by_cases h4 : l.length < 4
    · rw [Sh.one, if_pos hp, if_pos h4]
    · rw [Sh.one, if_pos hp, if_neg h4] at h
      cases h
  · by_cases he : (takeOpt l).2.2.2 ≠ 0
    · rw [Sh.one, if_neg hp, if_pos he] at h
      have e0 : l = [] := List.eq_nil_of_length_eq_zero h
      rw [e0, takeOpt_empty] at he
      exact absurd rfl he
    · by_cases hn : (takeOpt l).2.2.1 = 0
      · rw [Sh.one, if_neg hp, if_neg he, if_pos hn]
      · rw [Sh.one, if_neg hp, if_neg he, if_neg hn] at h
        exact absurd h hn

theorem Sh.one_ext (S : Sh) (l : List UInt8) (k : Nat) (hk : k ≤ l.length) :
    S.one (l.take k) = ([], 0, S) ∨ S.one l = S.one (l.take k) ∨ (∃ S3 : Sh, S3.phase = 3 ∧ S.one (l.take k) = ([], k, S3) ∧ S.one l = ([], l.length, S3)) := by
  have hl : (l.take k).length = k := by rw [List.length_take]; omega
  by_cases hp : S.phase = 0
  · by_cases h4 : k < 4
    · left
      rw [Sh.one, if_pos hp, if_pos (by omega)]
    · right; left
      rw [Sh.one, Sh.one, if_pos hp, if_pos hp, if_neg (show ¬ l.length < 4 by omega), if_neg (show ¬ (l.take k).length < 4 by omega), List.take_take, Nat.min_eq_left (by omega)]
  · rcases takeOpt_ext l k hk with ⟨h1, h2⟩ | ⟨h1, h2⟩ | h
    · right; right
      exact ⟨{ S with phase := 3 }, rfl, by rw [Sh.one, if_neg hp, if_pos h1, hl], by rw [Sh.one, if_neg hp, if_pos h2]⟩
    · left
      rw [Sh.one, if_neg hp, if_neg (by simp [h1]), if_pos h2]
    · by_cases he : (takeOpt l).2.2.2 ≠ 0
      · right; right
        exact ⟨{ S with phase := 3 }, rfl, by rw [Sh.one, if_neg hp, if_pos (by rw [← h]; exact he), hl], by rw [Sh.one, if_neg hp, if_pos he]⟩
      · right; left
        rw [Sh.one, Sh.one, if_neg hp, if_neg hp, ← h, if_neg he, if_neg he]

/-- What r tells behind what q told: all that is said, how far it has come; how much is taken, or it is over. -/
def Behind (o : List UInt8) (u : Nat) (q r : List UInt8 × Nat × Sh) : Prop := r.1 = o ++ q.1 ∧ r.2.2 = q.2.2 ∧ (r.2.1 = u + q.2.1 ∨ r.2.2.phase = 3)

theorem Sh.feed_ext (S : Sh) (l : List UInt8) (k : Nat) (hk : k ≤ l.length) : Behind (S.feed (l.take k)).1 (S.feed (l.take k)).2.1 ((S.feed (l.take k)).2.2.feed (l.drop (S.feed (l.take k)).2.1)) (S.feed l) := by
  suffices h : ∀ (n : Nat) (S : Sh) (l : List UInt8) (k : Nat), k = n → k ≤ l.length → Behind (S.feed (l.take k)).1 (S.feed (l.take k)).2.1 ((S.feed (l.take k)).2.2.feed (l.drop (S.feed (l.take k)).2.1)) (S.feed l) from h _ S l k rfl hk
  intro n
  induction n using Nat.strongRecOn with
  | ind n ih =>
    intro S l k hkn hk
    by_cases hp : S.phase < 2
    · rcases S.one_ext l k hk with h | h | ⟨S3, h3, h4, h5⟩
      · rw [Sh.feed_stop (l := l.take k) hp (by rw [h]), h]
        simp only [List.drop_zero, Nat.zero_add]
        exact ⟨rfl, rfl, .inl (by simp)⟩
      · by_cases h0 : 0 < (S.one (l.take k)).2.1
        · have hle := S.one_le (l.take k)
          rw [List.length_take] at hle
          obtain ⟨o, u, S', hr⟩ : ∃ o u S', S.one (l.take k) = (o, u, S') := ⟨_, _, _, rfl⟩
          rw [hr] at h h0 hle
          simp only at h0 hle
          have i1 := ih (k - u) (by omega) S' (l.drop u) (k - u) rfl (by rw [List.length_drop]; omega)
          rw [Sh.feed_go (l := l) hp (by rw [h]; exact h0), Sh.feed_go (l := l.take k) hp (by rw [hr]; exact h0), h, hr]
          simp only
          rw [show (l.take k).drop u = (l.drop u).take (k - u) by rw [List.drop_take]]
          obtain ⟨j1, j2, j3⟩ := i1
          rw [List.drop_drop] at j1 j2 j3
          refine ⟨?_, ?_, ?_⟩
          · simp only
            rw [j1, List.append_assoc]
          · exact j2
          · rcases j3 with j3 | j3
            · left
              simp only
              omega
            · exact .inr j3
        · have hz := Sh.one_zero (S := S) (l := l.take k) (by omega)
          rw [Sh.feed_stop (l := l.take k) hp (by omega), hz]
          simp only [List.drop_zero]
          exact ⟨rfl, rfl, .inl (by simp)⟩
      · have ho : ¬ S3.phase < 2 := by omega
        by_cases h0 : 0 < k
        · have e1 : S.feed (l.take k) = ([], k, S3) := by
            rw [Sh.feed_go (l := l.take k) hp (by rw [h4]; exact h0), h4]
            simp only
            rw [Sh.feed_over ho]
            rfl
          have e2 : S.feed l = ([], l.length, S3) := by
            rw [Sh.feed_go (l := l) hp (by rw [h5]; show 0 < l.length; omega), h5]
            simp only
            rw [Sh.feed_over ho]
            rfl
          rw [e1, e2]
          simp only
          rw [Sh.feed_over ho]
          exact ⟨rfl, rfl, .inr h3⟩
        · have e0 : k = 0 := by omega
          subst e0
          rw [List.take_zero] at h4 ⊢
          have : S.one [] = ([], 0, S) := Sh.one_zero (by rw [h4])
          rw [Sh.feed_stop (l := []) hp (by rw [this]), this]
          exact ⟨rfl, rfl, .inl (by simp)⟩
    · rw [Sh.feed_over hp]
      simp only [List.drop_zero]
      exact ⟨rfl, rfl, .inl (by simp)⟩

theorem Sh.feed_again (S : Sh) (l : List UInt8) : (S.feed l).2.2.feed (l.drop (S.feed l).2.1) = ([], 0, (S.feed l).2.2) := by
  suffices h : ∀ (n : Nat) (S : Sh) (l : List UInt8), l.length = n → (S.feed l).2.2.feed (l.drop (S.feed l).2.1) = ([], 0, (S.feed l).2.2) from h _ S l rfl
  intro n
  induction n using Nat.strongRecOn with
  | ind n ih =>
    intro S l hl
    by_cases hp : S.phase < 2
    · by_cases h0 : 0 < (S.one l).2.1
      · have h1 := S.one_le l
        have h2 := ih (l.drop (S.one l).2.1).length (by rw [List.length_drop]; omega) (S.one l).2.2 (l.drop (S.one l).2.1) rfl
        rw [Sh.feed_go hp h0]
        simp only
        rw [List.drop_drop] at h2
        exact h2
      · have hz := Sh.one_zero (S := S) (l := l) (by omega)
        rw [Sh.feed_stop hp (by omega), hz]
        simp only [List.drop_zero]
        rw [Sh.feed_stop hp (by rw [hz]), hz]
    · rw [Sh.feed_over hp]
      simp only [List.drop_zero]
      exact Sh.feed_over hp

theorem Behind.step {S : Sh} {b o : List UInt8} {u k : Nat} {r : List UInt8 × Nat × Sh} (h : Behind o u (S.feed (b.drop u)) r) (hk : u + k ≤ b.length) (q : List UInt8 × Nat × Sh) (hq : S.feed ((b.drop u).take k) = q) :
    Behind (o ++ q.1) (u + q.2.1) (q.2.2.feed (b.drop (u + q.2.1))) r := by
  subst hq
  have e := S.feed_ext (b.drop u) k (by rw [List.length_drop]; omega)
  rw [List.drop_drop] at e
  obtain ⟨e1, e2, e3⟩ := e
  obtain ⟨h1, h2, h3⟩ := h
  refine ⟨by rw [h1, e1, List.append_assoc], by rw [h2, e2], ?_⟩
  rcases h3 with h3 | h3
  · rcases e3 with e3 | e3
    · left; omega
    · right
      rw [h2]
      exact e3
  · exact .inr h3

end Go.Proofs.Ytpelpmhopmefoaa
