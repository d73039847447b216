/-
cofferdamlaw21: the walk of ShakeOver.
-/
import Derived.Test.YtpelpmhopmefoaaFit0
import Derived.Test.YtpelpmhopmefoaaCame0
namespace Go.Proofs.Ytpelpmhopmefoaa
open Go.RowKit Go.Cof
set_option maxRecDepth 100000
set_option linter.unusedSimpArgs false

theorem Sh.feed_fine {S : Sh} (hf : S.Fine) (l : List UInt8) : (S.feed l).2.2.Fine := by
  suffices h : ∀ (n : Nat) (S : Sh) (l : List UInt8), l.length = n → S.Fine → (S.feed l).2.2.Fine from h _ S l rfl hf
  intro n
  induction n using Nat.strongRecOn with
  | ind n ih =>
    intro S l hl hf
    by_cases hp : S.phase < 2
    · by_cases h0 : 0 < (S.one l).2.1
      · rw [Sh.feed_go hp h0]
        have := S.one_le l
        exact ih _ (by rw [List.length_drop]; omega) _ (l.drop (S.one l).2.1) rfl (Sh.one_fine hf l)
      · rw [Sh.feed_stop hp (by omega)]
        exact Sh.one_fine hf l
    · rw [Sh.feed_over hp]
      exact hf
theorem Sh.feed_le (S : Sh) (l : List UInt8) : (S.feed l).2.1 ≤ l.length := by
  suffices h : ∀ (n : Nat) (S : Sh) (l : List UInt8), l.length = n → (S.feed l).2.1 ≤ l.length from h _ S l rfl
  intro n
  induction n using Nat.strongRecOn with
  | ind n ih =>
    intro S l hl
    by_cases hp : S.phase < 2
    · by_cases h0 : 0 < (S.one l).2.1
      · rw [Sh.feed_go hp h0]
        have h1 := S.one_le l
        have h2 := ih (l.drop (S.one l).2.1).length (by rw [List.length_drop]; omega) (S.one l).2.2 (l.drop (S.one l).2.1) rfl
        rw [List.length_drop] at h2
        simp only
        omega
      · rw [Sh.feed_stop hp (by omega)]
        exact Nat.zero_le _
    · rw [Sh.feed_over hp]
      exact Nat.zero_le _
theorem Sh.feed_len {S : Sh} (hf : S.Fine) (l : List UInt8) : (S.feed l).1.length ≤ 200 * (S.feed l).2.1 := by
  suffices h : ∀ (n : Nat) (S : Sh) (l : List UInt8), l.length = n → S.Fine → (S.feed l).1.length ≤ 200 * (S.feed l).2.1 from h _ S l rfl hf
  intro n
  induction n using Nat.strongRecOn with
  | ind n ih =>
    intro S l hl hf
    by_cases hp : S.phase < 2
    · have h3 := Sh.one_len hf l
      by_cases h0 : 0 < (S.one l).2.1
      · rw [Sh.feed_go hp h0]
        have h1 := S.one_le l
        have h2 := ih (l.drop (S.one l).2.1).length (by rw [List.length_drop]; omega) (S.one l).2.2 (l.drop (S.one l).2.1) rfl (Sh.one_fine hf l)
        simp only [List.length_append]
        omega
      · rw [Sh.feed_stop hp (by omega)]
        simp only
        omega
    · rw [Sh.feed_over hp]
      simp

theorem BV.keep {w w' : World} {v : Value} {l : List UInt8} {K : Nat → Prop} (h : BV w v l) (hf : Fr K w w') (hn : ∀ g, v.ownBlock = some g → ¬ K g) : BV w' v l := Rd.keep h hf hn
theorem BV.lt {w : World} {v : Value} {l : List UInt8} (h : BV w v l) : ∀ g, v.ownBlock = some g → g < w.heap.size := Rd.lt h

set_option maxHeartbeats 1000000 in
theorem shakeOver_walk (n : List UInt8) (z : Int) (r : Bool) (v1 v2 : Value) (l1 l2 : List UInt8) (w : World) (h1 : -9223372036854775808 ≤ z) (h2 : z ≤ 9223372036854775807) (hn : n.length ≤ 9223372036854775807) (hb1 : BV w v1 l1) (hb2 : BV w v2 l2) :
    Calls Try.prog 8 #[.agg #[.string (strB n), .int .i64 z, .bool r], v1, v2] w fun e w' => e = .returned (.bool true) ∧ Fr (fun _ => False) w w' := by
  obtain ⟨a1, c1, rfl⟩ := hb1.form
  obtain ⟨a2, c2, rfl⟩ := hb2.form
  have HB1 := Lib.hid hb1
  have HB2 := Lib.hid hb2
  clear hb1 hb2
  rcases Decidable.em ((3000 : Int) < l1.length) with g1 | g1
  · go_enter Try.func8, Try.ntmps8
    go_wp2_with (go_at_call 17; go_loud (refine (alive21 _).mono ?_; rintro e w1 ⟨rfl, hf1⟩; have HF1 := Lib.hid hf1; clear hf1))
    go_returns
    exact ⟨rfl, HF1.out.trans' ((Fr.refl _ w).alloc _)⟩
  rcases Decidable.em ((3000 : Int) < l2.length) with g2 | g2
  · go_enter Try.func8, Try.ntmps8
    go_wp2_with (go_at_call 17; go_loud (refine (alive21 _).mono ?_; rintro e w1 ⟨rfl, hf1⟩; have HF1 := Lib.hid hf1; clear hf1))
    go_returns
    exact ⟨rfl, HF1.out.trans' ((Fr.refl _ w).alloc _)⟩
  obtain ⟨S, hS⟩ : ∃ S, Sh.new (n.take 64) (fitZ z) r = S := ⟨_, rfl⟩
  have hfine : S.Fine := by rw [← hS]; exact Sh.new_fine (by rw [List.length_take]; omega) (fitZ_le z)
  obtain ⟨S2, hS2⟩ : ∃ S2, (S.feed l1).2.2 = S2 := ⟨_, rfl⟩
  have hfine2 : S2.Fine := by rw [← hS2]; exact Sh.feed_fine hfine l1
  have hp3 := hfine2.phase
  have E1 := Lib.hid hS
  have E2 := Lib.hid hS2
  have F1 := Lib.hid hfine
  have F2 := Lib.hid hfine2
  clear hS hS2 hfine hfine2
  go_enter Try.func8, Try.ntmps8
  go_upto_region 8 with (first
    | (go_at_call 18; go_loud (refine (fit_any n z r _ h1 h2 hn).mono ?_; rintro e w1 ⟨rfl, hf1⟩; have HF1 := Lib.hid (hf1.trans' ((Fr.refl (fun _ => False) w).alloc (.cells #[.string (strB n), .int .i64 z, .bool r] 23))); clear hf1))
    | (go_at_call 19; go_loud (refine (new_any (n.take 64) (fitZ z) r _).mono ?_; rintro e w2 ⟨rfl, hs2, hf2⟩; rw [E1.out] at hs2; simp only [World.size_alloc] at hs2; have hw1 := HF1.out.size; have HS2 := Lib.hid hs2; have hl2 := lt_of_heap hs2; have HF2 := Lib.hid (HF1.out.trans (hf2.trans' ((Fr.refl (fun _ => False) w1).alloc (.cells #[.string (strB (n.take 64)), .int .i64 (fitZ z), .bool r] 23))) (fun _ _ => id)); clear hs2 hf2))
    | (go_at_call 17; go_loud (refine (alive21 _).mono ?_; rintro e w3 ⟨rfl, hf3⟩; have HF3 := Lib.hid (HF2.out.trans hf3 (fun _ _ => id)); have HS3 := Lib.hid (HS2.out.keep hf3 id); have hl3 := Nat.lt_of_lt_of_le hl2 hf3.size; clear hf3))
    | (go_at_call 20; go_loud (refine (feed_any _ S _ l1 _ HS3.out F1.out (HB1.out.keep HF3.out (fun _ _ => id)) (by omega) (fun g hg => by have := HB1.out.lt g hg; omega)).mono ?_; rintro e w4 ⟨v4, he, hV4, hO4, hS4, hF4⟩; rw [E2.out] at hS4; subst he; obtain ⟨a4, c4, rfl⟩ := hV4.form; have HS4 := Lib.hid hS4; have HF4 := Lib.hid (Fr.of_below0 (((HF3.out.mono (S' := fun k => k = w1.heap.size + 1) (fun _ _ => False.elim)).trans hF4 (fun _ _ => id)).fresh (fun k hk e => by omega))); clear hV4 hO4 hS4 hF4)))
  rcases Decidable.em (S2.phase < 2) with g3 | g3
  · have g3' : (S2.phase : Int) < 2 := by omega
    go_wp2_with (go_at_call 24; refine (phase_any _ _ _ HS4.out).mono ?_; rintro e w' ⟨rfl, rfl⟩)
    go_returns
    exact ⟨rfl, HF4.out⟩
  · have g3' : ¬ (S2.phase : Int) < 2 := by omega
    have EO : Hid (S2.feed l2 = ([], 0, S2)) := Lib.hid (Sh.feed_over g3)
    go_wp2_with (first
      | (go_at_call 24; refine (phase_any _ _ _ HS4.out).mono ?_; rintro e w' ⟨rfl, rfl⟩)
      | (go_at_call 26; refine (structured_any _ _ _ HS4.out).mono ?_; rintro e w' ⟨rfl, rfl⟩)
      | (go_at_call 20; go_loud (refine (feed_any _ S2 _ l2 _ HS4.out F2.out (HB2.out.keep HF4.out (fun _ _ => id)) (by omega) (fun g hg => by have := HB2.out.lt g hg; omega)).mono ?_; rintro e w5 ⟨v5, he, hV5, hO5, hS5, hF5⟩; rw [EO.out] at he hV5 hS5; simp only at he hV5 hS5; subst he; obtain ⟨a5, c5, rfl⟩ := hV5.form; have HS5 := Lib.hid hS5; have HF5 := Lib.hid (Fr.of_below0 (((HF4.out.mono (S' := fun k => k = w1.heap.size + 1) (fun _ _ => False.elim)).trans hF5 (fun _ _ => id)).fresh (fun k hk e => by omega))); clear hV5 hO5 hS5 hF5))
      | (go_at_call 24; go_loud (refine (phase_any _ _ _ HS5.out).mono ?_; rintro e w' ⟨rfl, rfl⟩))
      | (go_at_call 26; go_loud (refine (structured_any _ _ _ HS5.out).mono ?_; rintro e w' ⟨rfl, rfl⟩)))
    go_returns
    have e3 : decide ((S2.phase : Int) ≤ 3) = true := by simp; omega
    rw [e3]
    exact ⟨rfl, HF5.out⟩

end Go.Proofs.Ytpelpmhopmefoaa
