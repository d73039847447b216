/-
cofferdamlaw21: the walk of ShakeForms.
-/
import Derived.Test.YtpelpmhopmefoaaFormsP
import Derived.Test.YtpelpmhopmefoaaRw0
import Derived.Test.YtpelpmhopmefoaaDraw3
namespace Go.Proofs.Ytpelpmhopmefoaa
open Go.RowKit Go.Cof
set_option maxRecDepth 100000
set_option linter.unusedSimpArgs false

theorem BV.cutAt {w : World} {g o n c : Nat} {l : List UInt8} (h : BV w (.slice (some ⟨g, o, none⟩) n c) l) (u t : Nat) (hu : u ≤ t) (ht : t ≤ l.length) : BV w (.slice (some ⟨g, o + u, none⟩) (t - u) (c - u)) ((l.drop u).take (t - u)) := by
  have h1 := BV.drop h u (by omega)
  exact BV.take h1 (t - u) (by rw [List.length_drop]; omega)

set_option maxHeartbeats 4000000 in
theorem shakeForms_walk (n : List UInt8) (z : Int) (r : Bool) (v1 : Value) (b : List UInt8) (w : World) (h1 : -9223372036854775808 ≤ z) (h2 : z ≤ 9223372036854775807) (hn : n.length ≤ 9223372036854775807) (hb1 : BV w v1 b) :
    Calls Try.prog 3 #[.agg #[.string (strB n), .int .i64 z, .bool r], v1] w fun e w' => e = .returned (.bool true) ∧ Fr (fun _ => False) w w' := by
  obtain ⟨i0, hi, hz0, hz1, hz2⟩ := info_parts Try.info5
  obtain ⟨a1, c1, rfl⟩ := hb1.form
  have HB1 := Lib.hid hb1
  clear hb1
  rcases Decidable.em ((3000 : Int) < b.length) with g1 | g1
  · go_enter Try.func3, Try.ntmps3
    go_wp2_with (go_at_call 17; go_loud (refine (alive21 _).mono ?_; rintro e w1 ⟨rfl, hf1⟩; have HF1 := Lib.hid hf1; clear hf1))
    go_returns
    exact ⟨rfl, HF1.out.trans' ((Fr.refl _ w).alloc _)⟩
  obtain ⟨S, hS⟩ : ∃ S, Sh.new (n.take 64) (fitZ z) r = S := ⟨_, rfl⟩
  have hfine : S.Fine := by rw [← hS]; exact Sh.new_fine (by rw [List.length_take]; omega) (fitZ_le z)
  have hsec : S.sectors = fitZ z := by rw [← hS]; rfl
  have hfz := fitZ_le z
  obtain ⟨ol, un, SR, hR⟩ : ∃ ol un SR, S.feed b = (ol, un, SR) := ⟨_, _, _, rfl⟩
  have hform : FormRel S SR ol 0 := by
    have := (feed_formed hfine b).1
    rw [hR] at this
    obtain ⟨rows, t, e, g, k⟩ := this
    exact ⟨Nat.zero_le _, rows, t, e, g, k⟩
  have holen : ol.length ≤ 600000 := by
    have h3 := Sh.feed_len hfine b
    have h4 := S.feed_le b
    rw [hR] at h3 h4
    simp only at h3 h4
    omega
  have E1 := Lib.hid hS
  have E2 := Lib.hid hR
  have E3 := Lib.hid hsec
  have F1 := Lib.hid hfine
  have HFO := Lib.hid hform
  clear hS hR hfine hform hsec
  go_enter Try.func3, Try.ntmps3
  go_upto_region 8 with (first
    | (go_at_call 18; go_loud (refine (fit_any n z r _ h1 h2 hn).mono ?_; rintro e w1 ⟨rfl, hf1⟩; have HF1 := Lib.hid (hf1.trans' ((Fr.refl (fun _ => False) w).alloc (.cells #[.string (strB n), .int .i64 z, .bool r] 23))); clear hf1))
    | (go_at_call 19; go_loud (refine (new_any (n.take 64) (fitZ z) r (w1.alloc (.cells #[.string (strB (n.take 64)), .int .i64 (fitZ z), .bool r] 23))).mono ?_; rintro e w2 ⟨rfl, hs2, hf2⟩; rw [E1.out] at hs2; simp only [World.size_alloc] at hs2; have hw1 := HF1.out.size; have hl2 := lt_of_heap hs2; have HS2 := Lib.hid hs2; have HF2 := Lib.hid (HF1.out.trans (hf2.trans' ((Fr.refl (fun _ => False) w1).alloc (.cells #[.string (strB (n.take 64)), .int .i64 (fitZ z), .bool r] 23))) (fun _ _ => id)); have y2 : w2.cell? ⟨w1.heap.size, 1, none⟩ = some (.int .i64 (fitZ z)) := cell_of (hf2.heap (heap_new w1 _) id); clear hs2 hf2))
    | (go_at_call 17; go_loud (refine (alive21 _).mono ?_; rintro e w3 ⟨rfl, hf3⟩; have HF3 := Lib.hid (HF2.out.trans hf3 (fun _ _ => id)); have HS3 := Lib.hid (HS2.out.keep hf3 id); have y3 := hf3.cell y2 id; have hl3 := Nat.lt_of_lt_of_le hl2 hf3.size; clear hf3))
    | (go_at_call 20; go_loud (refine (feed_any _ S _ b _ HS3.out F1.out (HB1.out.keep HF3.out (fun _ _ => id)) (by omega) (fun g hg => by have := HB1.out.lt g hg; omega)).mono ?_; rintro e w4 ⟨v4, he, hV4, hO4, hS4, hF4⟩; rw [E2.out] at he hV4 hS4; simp only at he hV4 hS4; subst he; obtain ⟨a4, c4, rfl⟩ := hV4.form; have HV4 := Lib.hid hV4; have HS4 := Lib.hid hS4; have y4 := hF4.cell y3 (by simp); have HF4 := Lib.hid (Fr.of_below0 (((HF3.out.mono (S' := fun k => k = w1.heap.size + 1) (fun _ _ => False.elim)).trans hF4 (fun _ _ => id)).fresh (fun k hk e => by omega))); clear hV4 hO4 hS4 hF4)))
  have hac : ol.length ≤ c4 := (show BV w4 (.slice a4 ol.length c4) ol from HV4.out.rd).len.2
  clear y2 y3 HS2 HS3 HF2 HF3 HF1
  generalize w1.heap.size = B at *
  go_wp2_with fail
  go_loopw [9] (fun i wr => ∃ aN : Nat, i = .int .i64 aN ∧ FormRel S SR ol aN ∧ Fr (fun _ => False) w4 wr) (fun i _ => ol.length - (intOf i).toNat)
  case atStart => exact ⟨0, rfl, HFO.out, Fr.refl _ _⟩
  case round =>
    obtain ⟨aN, rfl, hR, hFr⟩ := hrel
    have haN := hR.le
    have hB : BV wr (.slice a4 ol.length c4) ol := (show BV w4 (.slice a4 ol.length c4) ol from HV4.out.rd).keep hFr (fun _ _ => id)
    have HB := Lib.hid hB
    have HFr := Lib.hid hFr
    have hS := Lib.hid (HS4.out.keep hFr id)
    have y5 := hFr.cell y4 id
    rcases hR.row with ⟨k, m, hk, hm, hl, x1, x2, x3, hnext⟩ | ht
    · rcases hB.cases with ⟨_, e⟩ | ⟨g, o, c, e, _, _, _⟩
      · rw [e] at hl
        simp at hl
      cases e
      have HR := Lib.hid hR
      have X1 := Lib.hid x1
      have X2 := Lib.hid x2
      have X3 := Lib.hid x3
      have HN := Lib.hid hnext
      have HK := Lib.hid hk
      have hk32 := known_lt hk
      have hk' : (k : Int) ≤ 4294967295 := by omega
      clear hR x1 x2 x3 hnext hk hB hFr
      obtain ⟨R0, hR0⟩ : ∃ R0, optReplyB 0 0 [] = R0 := ⟨_, rfl⟩
      have R0len : Hid (R0.length = 20) := Lib.hid (by rw [← hR0]; rfl)
      have R0hd : Hid (R0.take 8 = ansHead) := Lib.hid (by rw [← hR0]; rfl)
      have HR0 := Lib.hid hR0
      clear hR0
      have hss : (ansHead == ansHead) = true := by decide
      have hg20 : (20 : Int) ≤ (ol.length : Int) - aN := by omega
      go_upto_region 9 with fail
      refine wp_drawn (by kernel_rfl) ?_
      -- 0: move
      refine wpY_pure0 0 rfl rfl (by kernel_rfl) (by kernel_rfl) (fun K hK => ?_); go_wp2_with fail
      -- 1: call
      refine wpY_pure0 1 rfl rfl (by kernel_rfl) (by kernel_rfl) (fun K hK => ?_); go_wp2_with fail
      -- 2: move
      refine wpY_pure0 2 rfl rfl (by kernel_rfl) (by kernel_rfl) (fun K hK => ?_); go_wp2_with fail
      -- 3: binOp
      refine wpY_pure0 3 rfl rfl (by kernel_rfl) (by kernel_rfl) (fun K hK => ?_); go_wp2_with fail
      -- 4: binOp
      refine wpY_pure0 4 rfl rfl (by kernel_rfl) (by kernel_rfl) (fun K hK => ?_); go_wp2_with fail
      -- 5: move
      refine wpY_pure0 5 rfl rfl (by kernel_rfl) (by kernel_rfl) (fun K hK => ?_); go_wp2_with fail
      -- 6: move
      refine wpY_pureY 6 rfl (by kernel_rfl) (by kernel_rfl) (by kernel_rfl) (fun K hK => ?_); go_wp2_with fail
      -- 7: move
      refine wpY_pureY 7 rfl (by kernel_rfl) (by kernel_rfl) (by kernel_rfl) (fun K hK => ?_); go_wp2_with fail
      -- 8: move
      refine wpY_pureY 8 rfl (by kernel_rfl) (by kernel_rfl) (by kernel_rfl) (fun K hK => ?_); go_wp2_with fail
      -- 9: binOp
      refine wpY_pureY 9 rfl (by kernel_rfl) (by kernel_rfl) (by kernel_rfl) (fun K hK => ?_); go_wp2_with fail
      -- 10: slice
      refine wpY_pureY 10 rfl (by kernel_rfl) (by kernel_rfl) (by kernel_rfl) (fun K hK => ?_); go_wp2_with fail
      -- 11: call
      refine wpY_oneY 11 [] rfl (by kernel_rfl) (by kernel_rfl) (by kernel_rfl) (fun K hK => ?_)
      go_wp2_with (go_at_call 22; go_loud (refine (rOptionReply_any 0 0 _ [] _ (by decide) (by decide) (.inl (Rd.nil _ _)) (by decide)).mono ?_; rintro e w5 ⟨v5, rfl, hF5⟩; rw [HR0.out] at hF5; obtain ⟨a5, c5, rfl⟩ := hF5.1.form; rw [R0len.out]; have hc5 : 20 ≤ c5 := (by have := (show BV w5 (.slice a5 R0.length c5) R0 from hF5.1.rd).len.2; rw [R0len.out] at this; exact this); have hfx : Fr (fun _ => False) wr w5 := hF5.2.2.trans' (Fr.drew (Fr.refl _ wr)); have HF5 := Lib.hid hF5; clear hF5))
      refine ⟨trivial, ?_⟩
      -- 12: slice
      refine wpY_pureY 12 rfl (by kernel_rfl) (by kernel_rfl) (by kernel_rfl) (fun K hK => ?_); go_wp2_with fail
      -- 13: call
      refine wpY_oneY 13 [] rfl (by kernel_rfl) (by kernel_rfl) (by kernel_rfl) (fun K hK => ?_)
      go_wp2_with (go_at_call 21; go_loud (refine (same_any _ _ ((ol.drop aN).take 8) (R0.take 8) _ (BV.take (BV.drop (HB.out.keep hfx (fun _ _ => id)) aN (by omega)) 8 (by rw [List.length_drop]; omega)) (BV.take (show BV w5 (.slice a5 R0.length c5) R0 from HF5.out.1.rd) 8 (by rw [R0len.out]; decide))).mono ?_; rintro e w' ⟨rfl, rfl⟩; rw [X1.out, R0hd.out, hss]))
      refine ⟨trivial, ?_⟩
      -- 14: pick
      refine wpY_pure0 14 rfl rfl (by kernel_rfl) (by kernel_rfl) (fun K hK => ?_); go_wp2_with fail
      refine wpY_done (by kernel_rfl) ?_ _
      have HFX := Lib.hid hfx
      have hF45 := HFr.out.trans hfx (fun _ _ => id)
      have hB5 := HB.out.keep hfx (fun _ _ => id)
      have G12 := Lib.hid (BV.take (BV.drop hB5 (aN + 12) (by omega)) 4 (by rw [List.length_drop]; omega))
      have G16 := Lib.hid (BV.take (BV.drop hB5 (aN + 16) (by omega)) 4 (by rw [List.length_drop]; omega))
      have L12 : Hid (((ol.drop (aN + 12)).take 4).length = 4) := Lib.hid (by rw [List.length_take, List.length_drop]; omega)
      have L16 : Hid (((ol.drop (aN + 16)).take 4).length = 4) := Lib.hid (by rw [List.length_take, List.length_drop]; omega)
      have H45 := Lib.hid hF45
      clear hfx hF45 hB5
      go_upto_region 11 with (go_at_call 23; go_loud (refine (rget_ok _ ((ol.drop (aN + 12)).take 4) _ G12.out (by rw [L12.out]; decide) (by rw [L12.out]; decide)).mono ?_; rintro e w' ⟨rfl, rfl⟩; rw [X2.out]))
      go_upto_region 12 with (go_at_call 23; go_loud (refine (rget_ok _ ((ol.drop (aN + 16)).take 4) _ G16.out (by rw [L16.out]; decide) (by rw [L16.out]; decide)).mono ?_; rintro e w' ⟨rfl, rfl⟩; rw [X3.out]))
      have hk2 : k = 1 ∨ k = 2 ∨ k = 3 ∨ k = 2147483649 ∨ k = 2147483651 ∨ k = 2147483654 := HK.out
      have hfit1 : ¬ ((ol.length : Int) - aN - 20 < m) := by omega
      have hfit2 : (m : Int) ≤ 1008 := by omega
      rcases hk2 with e | e | e | e | e | e
      all_goals
        first
          | have q0 : ((k : Int) == 1) = true := by rw [e]; decide
          | have q0 : ((k : Int) == 1) = false := by rw [e]; decide
        first
          | have q1 : ((k : Int) == 2) = true := by rw [e]; decide
          | have q1 : ((k : Int) == 2) = false := by rw [e]; decide
        first
          | have q2 : ((k : Int) == 3) = true := by rw [e]; decide
          | have q2 : ((k : Int) == 3) = false := by rw [e]; decide
        first
          | have q3 : ((k : Int) == 2147483649) = true := by rw [e]; decide
          | have q3 : ((k : Int) == 2147483649) = false := by rw [e]; decide
        first
          | have q4 : ((k : Int) == 2147483651) = true := by rw [e]; decide
          | have q4 : ((k : Int) == 2147483651) = false := by rw [e]; decide
        first
          | have q5 : ((k : Int) == 2147483654) = true := by rw [e]; decide
          | have q5 : ((k : Int) == 2147483654) = false := by rw [e]; decide
        clear e
        go_wp2_with fail
        go_roundw
        case rel => first | exact ⟨aN + 20 + m, by go_num, HN.out, H45.out⟩ | ((repeat apply Exists.intro); exact ⟨⟨aN + 20 + m, by go_num, HN.out, H45.out⟩, rfl⟩)
        case measure => simp [intOf]; omega
    · rcases ht with ht | ⟨hp2, ht⟩
      · have hl0 : ol.length - aN = 0 := by
          have := congrArg List.length ht
          rw [List.length_drop] at this
          simpa using this
        have hg20 : decide ((20 : Int) ≤ (ol.length : Int) - aN) = false := by simp; omega
        clear hR ht hB hFr
        rcases Decidable.em (c4 = aN) with hcu | hcu
        all_goals
          first
            | (have hcu1 : c4 ≤ aN := Nat.le_of_eq hcu
               have hcu2 : aN ≤ c4 := Nat.le_of_eq hcu.symm
               clear hcu)
            | skip
          go_upto_region 9 with fail
          refine wp_drawn (by kernel_rfl) ?_
          -- 0: move
          refine wpY_pure0 0 rfl rfl (by kernel_rfl) (by kernel_rfl) (fun K hK => ?_); go_wp2_with fail
          -- 1: call
          refine wpY_pure0 1 rfl rfl (by kernel_rfl) (by kernel_rfl) (fun K hK => ?_); go_wp2_with fail
          -- 2: move
          refine wpY_pure0 2 rfl rfl (by kernel_rfl) (by kernel_rfl) (fun K hK => ?_); go_wp2_with fail
          -- 3: binOp
          refine wpY_pure0 3 rfl rfl (by kernel_rfl) (by kernel_rfl) (fun K hK => ?_); go_wp2_with fail
          -- 4: binOp
          refine wpY_pure0 4 rfl rfl (by kernel_rfl) (by kernel_rfl) (fun K hK => ?_); go_wp2_with fail
          -- 5: move
          refine wpY_pure0 5 rfl rfl (by kernel_rfl) (by kernel_rfl) (fun K hK => ?_); go_wp2_with fail
          -- 6: move
          refine wpY_skip 6 rfl (by kernel_rfl) (by kernel_rfl) (fun K hK => ?_); go_wp2_with fail
          -- 7: move
          refine wpY_skip 7 rfl (by kernel_rfl) (by kernel_rfl) (fun K hK => ?_); go_wp2_with fail
          -- 8: move
          refine wpY_skip 8 rfl (by kernel_rfl) (by kernel_rfl) (fun K hK => ?_); go_wp2_with fail
          -- 9: binOp
          refine wpY_skip 9 rfl (by kernel_rfl) (by kernel_rfl) (fun K hK => ?_); go_wp2_with fail
          -- 10: slice
          refine wpY_skip 10 rfl (by kernel_rfl) (by kernel_rfl) (fun K hK => ?_); go_wp2_with fail
          -- 11: call
          refine wpY_oneN 11 [] rfl (by kernel_rfl) (by kernel_rfl) (by kernel_rfl) (fun K hK => ?_)
          go_wp2_with fail
          refine ⟨trivial, ?_⟩
          -- 12: slice
          refine wpY_skip 12 rfl (by kernel_rfl) (by kernel_rfl) (fun K hK => ?_); go_wp2_with fail
          -- 13: call
          refine wpY_oneN 13 [] rfl (by kernel_rfl) (by kernel_rfl) (by kernel_rfl) (fun K hK => ?_)
          go_wp2_with fail
          refine ⟨trivial, ?_⟩
          -- 14: pick
          refine wpY_pure0 14 rfl rfl (by kernel_rfl) (by kernel_rfl) (fun K hK => ?_); go_wp2_with fail
          refine wpY_done (by kernel_rfl) ?_ _
          go_wp2_with fail
          go_returns
          exact ⟨rfl, HF4.out.trans (Fr.drew HFr.out) (fun _ _ => id)⟩
      · have hsec : Hid (S.sectors = fitZ z) := E3
        have hph : ((SR.phase : Int) == 2) = true := by rw [hp2]; decide
        have hsz : ∀ X, ol.drop aN = S.exportB ++ X → getN ((ol.drop aN).take 8) = fitZ z * 64 := fun X e => by
          rw [e, export_size X (by rw [E3.out]; omega), E3.out]
        have HSZ := Lib.hid hsz
        have hq : (((fitZ z * 64 : Nat) : Int) == 64 * (fitZ z : Int)) = true := by
          simp
          omega
        obtain ⟨q, hqq⟩ : ∃ q, fitZ z * 64 = q := ⟨_, rfl⟩
        rw [hqq] at HSZ hq
        have hq8 : (q : Int) ≤ 1000000 := by omega
        clear hqq hsz
        rcases hB.cases with ⟨_, e⟩ | ⟨g, o, c, e, _, _, _⟩
        · exfalso
          have := S.exportB_len
          rw [e] at ht
          rcases ht with ht | ht <;> (have h9 := congrArg List.length ht; simp [this] at h9)
        cases e
        rcases ht with ht | ht
        · have hl0 : ol.length - aN = 10 := by
            have := congrArg List.length ht
            rw [List.length_drop, S.exportB_len] at this
            exact this
          have hg20 : decide ((20 : Int) ≤ (ol.length : Int) - aN) = false := by simp; omega
          have hcu : ¬ c4 = aN := by omega
          have HT := Lib.hid ht
          have Q8 := Lib.hid (HSZ.out [] (by rw [List.append_nil]; exact ht))
          clear hR ht hFr hp2
          go_upto_region 9 with fail
          refine wp_drawn (by kernel_rfl) ?_
          -- 0: move
          refine wpY_pure0 0 rfl rfl (by kernel_rfl) (by kernel_rfl) (fun K hK => ?_); go_wp2_with fail
          -- 1: call
          refine wpY_pure0 1 rfl rfl (by kernel_rfl) (by kernel_rfl) (fun K hK => ?_); go_wp2_with fail
          -- 2: move
          refine wpY_pure0 2 rfl rfl (by kernel_rfl) (by kernel_rfl) (fun K hK => ?_); go_wp2_with fail
          -- 3: binOp
          refine wpY_pure0 3 rfl rfl (by kernel_rfl) (by kernel_rfl) (fun K hK => ?_); go_wp2_with fail
          -- 4: binOp
          refine wpY_pure0 4 rfl rfl (by kernel_rfl) (by kernel_rfl) (fun K hK => ?_); go_wp2_with fail
          -- 5: move
          refine wpY_pure0 5 rfl rfl (by kernel_rfl) (by kernel_rfl) (fun K hK => ?_); go_wp2_with fail
          -- 6: move
          refine wpY_skip 6 rfl (by kernel_rfl) (by kernel_rfl) (fun K hK => ?_); go_wp2_with fail
          -- 7: move
          refine wpY_skip 7 rfl (by kernel_rfl) (by kernel_rfl) (fun K hK => ?_); go_wp2_with fail
          -- 8: move
          refine wpY_skip 8 rfl (by kernel_rfl) (by kernel_rfl) (fun K hK => ?_); go_wp2_with fail
          -- 9: binOp
          refine wpY_skip 9 rfl (by kernel_rfl) (by kernel_rfl) (fun K hK => ?_); go_wp2_with fail
          -- 10: slice
          refine wpY_skip 10 rfl (by kernel_rfl) (by kernel_rfl) (fun K hK => ?_); go_wp2_with fail
          -- 11: call
          refine wpY_oneN 11 [] rfl (by kernel_rfl) (by kernel_rfl) (by kernel_rfl) (fun K hK => ?_)
          go_wp2_with fail
          refine ⟨trivial, ?_⟩
          -- 12: slice
          refine wpY_skip 12 rfl (by kernel_rfl) (by kernel_rfl) (fun K hK => ?_); go_wp2_with fail
          -- 13: call
          refine wpY_oneN 13 [] rfl (by kernel_rfl) (by kernel_rfl) (by kernel_rfl) (fun K hK => ?_)
          go_wp2_with fail
          refine ⟨trivial, ?_⟩
          -- 14: pick
          refine wpY_pure0 14 rfl rfl (by kernel_rfl) (by kernel_rfl) (fun K hK => ?_); go_wp2_with fail
          refine wpY_done (by kernel_rfl) ?_ _
          go_upto_region 19 with fail
          have hd8 : 10 ≤ c4 - aN := by omega
          have HL := Lib.hid (show BV wr.drew (.slice (some ⟨g, o + aN, none⟩) 10 (c4 - aN)) (ol.drop aN) by
            have := BV.drop HB.out aN (by omega)
            rw [hl0] at this
            exact this.keep (Fr.drew (Fr.refl (fun _ => False) wr)) (fun _ _ => id))
          have HL8 := Lib.hid (BV.take HL.out 8 (by rw [List.length_drop]; omega))
          have L8 : Hid (((ol.drop aN).take 8).length = 8) := Lib.hid (by rw [List.length_take, List.length_drop]; omega)
          have hSd := Lib.hid (hS.out.keep (Fr.drew (Fr.refl (fun _ => False) wr)) id)
          go_upto_region 20 with (go_at_call 23; go_loud (refine (rget_ok _ ((ol.drop aN).take 8) _ HL8.out (by rw [L8.out]; decide) (by rw [L8.out]; decide)).mono ?_; rintro e w' ⟨rfl, rfl⟩; rw [Q8.out]))
          refine wp_drawn (by kernel_rfl) ?_
          -- 0: move
          refine wpY_pure0 0 rfl rfl (by kernel_rfl) (by kernel_rfl) (fun K hK => ?_); go_wp2_with fail
          -- 1: call
          refine wpY_pure0 1 rfl rfl (by kernel_rfl) (by kernel_rfl) (fun K hK => ?_); go_wp2_with fail
          -- 2: binOp
          refine wpY_pure0 2 rfl rfl (by kernel_rfl) (by kernel_rfl) (fun K hK => ?_); go_wp2_with fail
          -- 3: move
          refine wpY_pure0 3 rfl rfl (by kernel_rfl) (by kernel_rfl) (fun K hK => ?_); go_wp2_with fail
          -- 4: move
          refine wpY_skip 4 rfl (by kernel_rfl) (by kernel_rfl) (fun K hK => ?_); go_wp2_with fail
          -- 5: call
          refine wpY_skip 5 rfl (by kernel_rfl) (by kernel_rfl) (fun K hK => ?_); go_wp2_with fail
          -- 6: binOp
          refine wpY_skip 6 rfl (by kernel_rfl) (by kernel_rfl) (fun K hK => ?_); go_wp2_with fail
          -- 7: move
          refine wpY_skip 7 rfl (by kernel_rfl) (by kernel_rfl) (fun K hK => ?_); go_wp2_with fail
          -- 8: move
          refine wpY_skip 8 rfl (by kernel_rfl) (by kernel_rfl) (fun K hK => ?_); go_wp2_with fail
          -- 9: slice
          refine wpY_skip 9 rfl (by kernel_rfl) (by kernel_rfl) (fun K hK => ?_); go_wp2_with fail
          -- 10: makeSlice
          refine wpY_oneN 10 [] rfl (by kernel_rfl) (by kernel_rfl) (by kernel_rfl) (fun K hK => ?_)
          go_wp2_with fail
          refine ⟨trivial, ?_⟩
          -- 11: call
          refine wpY_oneN 11 [] rfl (by kernel_rfl) (by kernel_rfl) (by kernel_rfl) (fun K hK => ?_)
          go_wp2_with fail
          refine ⟨trivial, ?_⟩
          -- 12: pick
          refine wpY_skip 12 rfl (by kernel_rfl) (by kernel_rfl) (fun K hK => ?_); go_wp2_with fail
          -- 13: pick
          refine wpY_pure0 13 rfl rfl (by kernel_rfl) (by kernel_rfl) (fun K hK => ?_); go_wp2_with fail
          -- 14: assign
          refine wpY_pure0 14 rfl rfl (by kernel_rfl) (by kernel_rfl) (fun K hK => ?_); go_wp2_with fail
          refine wpY_done (by kernel_rfl) ?_ _
          have hSd2 := Lib.hid (hSd.out.keep (Fr.drew (Fr.refl (fun _ => False) wr.drew)) id)
          go_wp2_with (go_at_call 24; go_loud (refine (phase_any _ _ _ hSd2.out).mono ?_; rintro e w' ⟨rfl, rfl⟩))
          go_returns
          exact ⟨rfl, HF4.out.trans (Fr.drew (Fr.drew HFr.out)) (fun _ _ => id)⟩
        · have hl0 : ol.length - aN = 134 := by
            have := congrArg List.length ht
            rw [List.length_drop, List.length_append, S.exportB_len, List.length_replicate] at this
            exact this
          have hg20 : (20 : Int) ≤ (ol.length : Int) - aN := by omega
          have hcu : ¬ c4 = aN := by omega
          have HT := Lib.hid ht
          have Q8 := Lib.hid (HSZ.out _ ht)
          obtain ⟨R0, hR0⟩ : ∃ R0, optReplyB 0 0 [] = R0 := ⟨_, rfl⟩
          have R0len : Hid (R0.length = 20) := Lib.hid (by rw [← hR0]; rfl)
          have R0hd : Hid (R0.take 8 = ansHead) := Lib.hid (by rw [← hR0]; rfl)
          have hss : ((ol.drop aN).take 8 == ansHead) = false := by
            have := export_head (S := S) (List.replicate 124 0) (by rw [E3.out]; omega)
            rw [← ht] at this
            simpa using this
          have HSS := Lib.hid hss
          have HR0 := Lib.hid hR0
          clear hR ht hFr hp2 hR0 hss
          go_upto_region 9 with fail
          refine wp_drawn (by kernel_rfl) ?_
          -- 0: move
          refine wpY_pure0 0 rfl rfl (by kernel_rfl) (by kernel_rfl) (fun K hK => ?_); go_wp2_with fail
          -- 1: call
          refine wpY_pure0 1 rfl rfl (by kernel_rfl) (by kernel_rfl) (fun K hK => ?_); go_wp2_with fail
          -- 2: move
          refine wpY_pure0 2 rfl rfl (by kernel_rfl) (by kernel_rfl) (fun K hK => ?_); go_wp2_with fail
          -- 3: binOp
          refine wpY_pure0 3 rfl rfl (by kernel_rfl) (by kernel_rfl) (fun K hK => ?_); go_wp2_with fail
          -- 4: binOp
          refine wpY_pure0 4 rfl rfl (by kernel_rfl) (by kernel_rfl) (fun K hK => ?_); go_wp2_with fail
          -- 5: move
          refine wpY_pure0 5 rfl rfl (by kernel_rfl) (by kernel_rfl) (fun K hK => ?_); go_wp2_with fail
          -- 6: move
          refine wpY_pureY 6 rfl (by kernel_rfl) (by kernel_rfl) (by kernel_rfl) (fun K hK => ?_); go_wp2_with fail
          -- 7: move
          refine wpY_pureY 7 rfl (by kernel_rfl) (by kernel_rfl) (by kernel_rfl) (fun K hK => ?_); go_wp2_with fail
          -- 8: move
          refine wpY_pureY 8 rfl (by kernel_rfl) (by kernel_rfl) (by kernel_rfl) (fun K hK => ?_); go_wp2_with fail
          -- 9: binOp
          refine wpY_pureY 9 rfl (by kernel_rfl) (by kernel_rfl) (by kernel_rfl) (fun K hK => ?_); go_wp2_with fail
          -- 10: slice
          refine wpY_pureY 10 rfl (by kernel_rfl) (by kernel_rfl) (by kernel_rfl) (fun K hK => ?_); go_wp2_with fail
          -- 11: call
          refine wpY_oneY 11 [] rfl (by kernel_rfl) (by kernel_rfl) (by kernel_rfl) (fun K hK => ?_)
          go_wp2_with (go_at_call 22; go_loud (refine (rOptionReply_any 0 0 _ [] _ (by decide) (by decide) (.inl (Rd.nil _ _)) (by decide)).mono ?_; rintro e w5 ⟨v5, rfl, hF5⟩; rw [HR0.out] at hF5; obtain ⟨a5, c5, rfl⟩ := hF5.1.form; rw [R0len.out]; have hc5 : 20 ≤ c5 := (by have := (show BV w5 (.slice a5 R0.length c5) R0 from hF5.1.rd).len.2; rw [R0len.out] at this; exact this); have hfx : Fr (fun _ => False) wr w5 := hF5.2.2.trans' (Fr.drew (Fr.refl _ wr)); have HF5 := Lib.hid hF5; clear hF5))
          refine ⟨trivial, ?_⟩
          -- 12: slice
          refine wpY_pureY 12 rfl (by kernel_rfl) (by kernel_rfl) (by kernel_rfl) (fun K hK => ?_); go_wp2_with fail
          -- 13: call
          refine wpY_oneY 13 [] rfl (by kernel_rfl) (by kernel_rfl) (by kernel_rfl) (fun K hK => ?_)
          go_wp2_with (go_at_call 21; go_loud (refine (same_any _ _ ((ol.drop aN).take 8) (R0.take 8) _ (BV.take (BV.drop (HB.out.keep hfx (fun _ _ => id)) aN (by omega)) 8 (by rw [List.length_drop]; omega)) (BV.take (show BV w5 (.slice a5 R0.length c5) R0 from HF5.out.1.rd) 8 (by rw [R0len.out]; decide))).mono ?_; rintro e w' ⟨rfl, rfl⟩; rw [R0hd.out, HSS.out]))
          refine ⟨trivial, ?_⟩
          -- 14: pick
          refine wpY_pure0 14 rfl rfl (by kernel_rfl) (by kernel_rfl) (fun K hK => ?_); go_wp2_with fail
          refine wpY_done (by kernel_rfl) ?_ _
          have hd8 : 134 ≤ c4 - aN := by omega
          have hd9 : ¬ c4 - aN = 10 := by omega
          have hd10 : ¬ c4 - aN = 0 := by omega
          have HL := Lib.hid (show BV w5 (.slice (some ⟨g, o + aN, none⟩) 134 (c4 - aN)) (ol.drop aN) by
            have := BV.drop HB.out aN (by omega)
            rw [hl0] at this
            exact this.keep hfx (fun _ _ => id))
          have HL8 := Lib.hid (BV.take HL.out 8 (by rw [List.length_drop]; omega))
          have L8 : Hid (((ol.drop aN).take 8).length = 8) := Lib.hid (by rw [List.length_take, List.length_drop]; omega)
          have hS5 := Lib.hid (hS.out.keep hfx id)
          have y6 := hfx.cell y5 id
          have HFX := Lib.hid hfx
          clear hfx
          go_upto_region 20 with (go_at_call 23; go_loud (refine (rget_ok _ ((ol.drop aN).take 8) _ HL8.out (by rw [L8.out]; decide) (by rw [L8.out]; decide)).mono ?_; rintro e w' ⟨rfl, rfl⟩; rw [Q8.out]))
          have Z : Hid ((ol.drop aN).drop 10 = List.replicate 124 0) := Lib.hid (by rw [HT.out]; exact List.drop_left' S.exportB_len)
          have HM : Hid ((madeCells (Value.int .u8 0).cells (124 * 1)).toList = bv (List.replicate 124 0)) := Lib.hid (made_bytes 124)
          have hzz : (List.replicate 124 (0 : UInt8) == List.replicate 124 0) = true := by simp
          have HZZ := Lib.hid hzz
          clear hzz
          refine wp_drawn (by kernel_rfl) ?_
          -- 0: move
          refine wpY_pure0 0 rfl rfl (by kernel_rfl) (by kernel_rfl) (fun K hK => ?_); go_wp2_with fail
          -- 1: call
          refine wpY_pure0 1 rfl rfl (by kernel_rfl) (by kernel_rfl) (fun K hK => ?_); go_wp2_with fail
          -- 2: binOp
          refine wpY_pure0 2 rfl rfl (by kernel_rfl) (by kernel_rfl) (fun K hK => ?_); go_wp2_with fail
          -- 3: move
          refine wpY_pure0 3 rfl rfl (by kernel_rfl) (by kernel_rfl) (fun K hK => ?_); go_wp2_with fail
          -- 4: move
          refine wpY_pureY 4 rfl (by kernel_rfl) (by kernel_rfl) (by kernel_rfl) (fun K hK => ?_); go_wp2_with fail
          -- 5: call
          refine wpY_pureY 5 rfl (by kernel_rfl) (by kernel_rfl) (by kernel_rfl) (fun K hK => ?_); go_wp2_with fail
          -- 6: binOp
          refine wpY_pureY 6 rfl (by kernel_rfl) (by kernel_rfl) (by kernel_rfl) (fun K hK => ?_); go_wp2_with fail
          -- 7: move
          refine wpY_pureY 7 rfl (by kernel_rfl) (by kernel_rfl) (by kernel_rfl) (fun K hK => ?_); go_wp2_with fail
          -- 8: move
          refine wpY_pureY 8 rfl (by kernel_rfl) (by kernel_rfl) (by kernel_rfl) (fun K hK => ?_); go_wp2_with fail
          -- 9: slice
          refine wpY_pureY 9 rfl (by kernel_rfl) (by kernel_rfl) (by kernel_rfl) (fun K hK => ?_); go_wp2_with fail
          -- 10: makeSlice
          refine wpY_oneY 10 [] rfl (by kernel_rfl) (by kernel_rfl) (by kernel_rfl) (fun K hK => ?_)
          refine op_make _ _ 24 rfl 5 i0 _ 1 1 Try.underlying24 hi hz0 hz1 hz2 124 124 124 rfl rfl rfl rfl (by decide) (by decide) ?_; intro w6 hm hf6; have HM6 := Lib.hid hm; have hf56 := hf6.trans' (Fr.drew (Fr.refl (fun _ => False) w5)); have HF6 := Lib.hid hf56; have y7 := hf56.cell y6 id; clear hm hf6 hf56; simp only [Act.put, List.setIfInBounds_toArray, List.set_cons_zero, List.set_cons_succ]; refine hK _ _ ?_
          refine ⟨trivial, ?_⟩
          -- 11: call
          refine wpY_oneY 11 [] rfl (by kernel_rfl) (by kernel_rfl) (by kernel_rfl) (fun K hK => ?_)
          go_wp2_with (go_at_call 21; go_loud (refine (same_any _ _ ((ol.drop aN).drop 10) (List.replicate 124 0) _ (by have h9 := BV.drop (HL.out.keep HF6.out (fun _ _ => id)) 10 (by rw [List.length_drop]; omega); rw [List.length_drop, hl0] at h9; simpa [Nat.add_assoc] using h9) (by have h9 := HM6.out; rw [HM.out] at h9; have h10 := h9.rd; simp only [BV, List.length_replicate]; exact h10)).mono ?_; rintro e w' ⟨rfl, rfl⟩; rw [Z.out, HZZ.out]))
          refine ⟨trivial, ?_⟩
          -- 12: pick
          refine wpY_pureY 12 rfl (by kernel_rfl) (by kernel_rfl) (by kernel_rfl) (fun K hK => ?_); go_wp2_with fail
          -- 13: pick
          refine wpY_pure0 13 rfl rfl (by kernel_rfl) (by kernel_rfl) (fun K hK => ?_); go_wp2_with fail
          -- 14: assign
          refine wpY_pure0 14 rfl rfl (by kernel_rfl) (by kernel_rfl) (fun K hK => ?_); go_wp2_with fail
          refine wpY_done (by kernel_rfl) ?_ _
          have hS6 := Lib.hid (hS5.out.keep HF6.out id)
          go_wp2_with (go_at_call 24; go_loud (refine (phase_any _ _ _ hS6.out).mono ?_; rintro e w' ⟨rfl, rfl⟩))
          go_returns
          exact ⟨rfl, (HF4.out.trans HFr.out (fun _ _ => id)).trans (HFX.out.trans HF6.out (fun _ _ => id)) (fun _ _ => id)⟩

end Go.Proofs.Ytpelpmhopmefoaa
