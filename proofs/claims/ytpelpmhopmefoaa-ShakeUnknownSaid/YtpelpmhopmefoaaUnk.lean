/-
cofferdamlaw21: the walk of ShakeUnknown.
-/
import Derived.Test.YtpelpmhopmefoaaUnk0
import Derived.Test.YtpelpmhopmefoaaBits
import Derived.Test.YtpelpmhopmefoaaDraw3
namespace Go.Proofs.Ytpelpmhopmefoaa
open Go.RowKit Go.Cof
set_option maxRecDepth 100000
set_option linter.unusedSimpArgs false

theorem feed_begin {S : Sh} (hp : S.phase = 0) : S.feed [0, 0, 0, 1] = ([], 4, { S with phase := 1, bare := false }) := by
  have h1 : S.one [0, 0, 0, 1] = ([], 4, { S with phase := 1, bare := false }) := by
    rw [Sh.one, if_pos hp, if_neg (by decide)]
    rfl
  rw [Sh.feed_go (by omega) (by rw [h1]; exact Nat.succ_pos 3), h1]
  simp only
  have h3 : ({ S with phase := 1, bare := false } : Sh).one [] = ([], 0, { S with phase := 1, bare := false }) := by
    refine Sh.one_zero ?_
    have := ({ S with phase := 1, bare := false } : Sh).one_le []
    simpa using this
  rw [show ([0, 0, 0, 1] : List UInt8).drop 4 = [] from rfl, Sh.feed_stop (show (1 : Nat) < 2 by decide) (by rw [h3]), h3]
  rfl
theorem optB_phase {S : Sh} (h : 1 ≤ S.phase) (k : Nat) (d : List UInt8) : 1 ≤ (S.optB k d).2.phase := by
  unfold Sh.optB Sh.nameB Sh.answerL
  repeat' split
  all_goals first
    | exact h
    | (simp only; omega)
theorem feed_phase {S : Sh} (h : 1 ≤ S.phase) (k : Nat) (d : List UInt8) (hk : k < 256 ^ 4) (hd : d.length ≤ 1000) : 1 ≤ (S.feed (optMsg k d)).2.2.phase := by
  by_cases hp : S.phase = 1
  · rw [feed_opt hp k d hk hd]
    exact optB_phase h k d
  · rw [Sh.feed_over (by omega)]
    exact h

/-- Both handshakes stand at S. -/
structure UnkRel (H G : Nat) (w5 : World) (S : Sh) (wr : World) : Prop where
  fine : S.Fine
  phase : 1 ≤ S.phase
  h : ShAt wr H S
  g : ShAt wr G S
  fr : Fr (fun k => k = H ∨ k = G) w5 wr

set_option maxHeartbeats 4000000 in
theorem shakeUnknown_walk (n : List UInt8) (z : Int) (r : Bool) (v1 v2 : Value) (os : List (Int × Value × List UInt8)) (zs : List Int) (w : World) (h1 : -9223372036854775808 ≤ z) (h2 : z ≤ 9223372036854775807) (hn : n.length ≤ 9223372036854775807) (ho : OV w v1 os) (_hos : os.length ≤ 9223372036854775807) (hb2 : ZV w .i64 v2 zs) (_hzl : zs.length ≤ 9223372036854775807)
    (hz : ∀ x ∈ zs, -9223372036854775808 ≤ x ∧ x ≤ 9223372036854775807) :
    Calls Try.prog 7 #[.agg #[.string (strB n), .int .i64 z, .bool r], v1, v2] w fun e w' => e = .returned (.bool true) ∧ Fr (fun _ => False) w w' := by
  obtain ⟨⟨a1, c1, rfl, hcells⟩, hopts⟩ := ho
  obtain ⟨a2, c2, rfl⟩ := hb2.form
  have HC := Lib.hid hcells
  have HO := Lib.hid hopts
  have HB2 := Lib.hid hb2
  have HZ := Lib.hid hz
  clear hcells hopts hb2 hz
  obtain ⟨S, hS⟩ : ∃ S, Sh.new (n.take 64) (fitZ z) r = S := ⟨_, rfl⟩
  have hfine : S.Fine := by rw [← hS]; exact Sh.new_fine (by rw [List.length_take]; omega) (fitZ_le z)
  have hfb : S.feed [0, 0, 0, 1] = ([], 4, { S with phase := 1, bare := false }) := feed_begin (by rw [← hS]; rfl)
  obtain ⟨S1, hS1⟩ : ∃ S1 : Sh, { S with phase := 1, bare := false } = S1 := ⟨_, rfl⟩
  rw [hS1] at hfb
  have hfine1 : S1.Fine := by have := Sh.feed_fine hfine [0, 0, 0, 1]; rw [hfb] at this; exact this
  have hph1 : 1 ≤ S1.phase := by rw [← hS1]; exact Nat.le_refl _
  have E1 := Lib.hid hS
  have E2 := Lib.hid hfb
  have F0 := Lib.hid hfine
  have F1 := Lib.hid hfine1
  have L1 : ∀ (w1 : World) z, BV (w1.alloc (.cells #[.int .u8 0, .int .u8 0, .int .u8 0, .int .u8 1] 5 z)) (.slice (some ⟨w1.heap.size, 0, none⟩) 4 4) [0, 0, 0, 1] := fun w1 z => Rd.block (xs := bv [0, 0, 0, 1]) (heap_new w1 _) (by decide)
  have HL1 := Lib.hid L1
  clear hS hfb hfine hfine1 hS1 L1
  go_enter Try.func7, Try.ntmps7
  go_upto_region 6 with (first
    | (go_at_call 18; go_loud (refine (fit_any n z r _ h1 h2 hn).mono ?_; rintro e w1 ⟨rfl, hf1⟩; have HF1 := Lib.hid (hf1.trans' ((Fr.refl (fun _ => False) w).alloc (.cells #[.string (strB n), .int .i64 z, .bool r] 23))); clear hf1))
    | (go_at_call 17; go_loud (refine (alive21 _).mono ?_; rintro e w4 ⟨rfl, hf4⟩; have HF4 := Lib.hid (HF3.out.trans hf4 (fun _ _ => id)); have HH4 := Lib.hid (HH3.out.keep hf4 id); have HG4 := Lib.hid (HG3.out.keep hf4 id); have hl4 := Nat.lt_of_lt_of_le hl3 hf4.size; clear hf4))
    | (go_at_call 19; refine (new_any (n.take 64) (fitZ z) r (w1.alloc (.cells #[.string (strB (n.take 64)), .int .i64 (fitZ z), .bool r] 23))).mono ?_; rintro e w2 ⟨rfl, hs2, hf2⟩; rw [E1.out] at hs2; simp only [World.size_alloc] at hs2; have hw1 := HF1.out.size; have hl2 := lt_of_heap hs2; have HH2 := Lib.hid hs2; have HF2 := Lib.hid (HF1.out.trans (hf2.trans' ((Fr.refl (fun _ => False) w1).alloc (.cells #[.string (strB (n.take 64)), .int .i64 (fitZ z), .bool r] 23))) (fun _ _ => id)); have y2 : ∀ o, w2.cell? ⟨w1.heap.size, o, none⟩ = #[Value.string (strB (n.take 64)), .int .i64 (fitZ z), .bool r][o]? := cells_in (hf2.heap (heap_new w1 _) id); clear hs2 hf2)
    | (go_at_call 19; go_loud (refine (new_any (n.take 64) (fitZ z) r w2).mono ?_; rintro e w3 ⟨rfl, hs3, hf3⟩; rw [E1.out] at hs3; have hl3 := lt_of_heap hs3; have HG3 := Lib.hid hs3; have HH3 := Lib.hid (HH2.out.keep hf3 id); have HF3 := Lib.hid (HF2.out.trans hf3 (fun _ _ => id)); clear hs3 hf3)))
  have hwH : w.heap.size ≤ w1.heap.size := hw1
  obtain ⟨H, hH⟩ : ∃ H, w1.heap.size + 1 = H := ⟨_, rfl⟩
  obtain ⟨G, hG⟩ : ∃ G, w2.heap.size = G := ⟨_, rfl⟩
  rw [hH] at hl2 HH4
  rw [hG] at hl4 HG4 hl2
  rw [hH, hG]
  have hHw : w.heap.size ≤ H := by omega
  have hGH : G ≠ H := by omega
  clear hH hG HF1 HF2 HF3 HH2 HH3 HG3 hl3 y2 hw1 hwH
  go_upto_region 7 with (go_at_call 20; go_loud (refine (feed_any H S _ [0, 0, 0, 1] _ (HH4.out.keep ((Fr.refl (fun _ => False) w4).alloc _) id) F0.out (HL1.out w4 _) (by decide) (fun g hg => by have h9 : w4.heap.size = g := (by simpa [Value.ownBlock] using hg); omega)).mono ?_; rintro e w5 ⟨v5, he, hV5, hO5, hS5, hF5⟩; rw [E2.out] at he hV5 hS5; simp only at he hV5 hS5; subst he; obtain ⟨a5, c5, rfl⟩ := hV5.form; have HH5 := Lib.hid hS5; have HG5 := Lib.hid ((HG4.out.keep ((Fr.refl (fun _ => False) w4).alloc _) id).keep hF5 (fun e => hGH e)); have HF5 := Lib.hid (Fr.of_below0 (((HF4.out.mono (S' := fun k => k = H) (fun _ _ => False.elim)).trans (hF5.trans' ((Fr.refl (fun _ => False) w4).alloc _)) (fun _ _ => id)).fresh (fun k hk e => by omega))); have hl5 := Nat.lt_of_lt_of_le hl4 (hF5.trans' ((Fr.refl (fun _ => False) w4).alloc _)).size; clear hV5 hO5 hS5 hF5))
  go_upto_region 8 with (go_at_call 20; go_loud (refine (feed_any G S _ [0, 0, 0, 1] _ (HG5.out.keep ((Fr.refl (fun _ => False) w5).alloc _) id) F0.out (HL1.out w5 _) (by decide) (fun g hg => by have h9 : w5.heap.size = g := (by simpa [Value.ownBlock] using hg); omega)).mono ?_; rintro e w6 ⟨v6, he, hV6, hO6, hS6, hF6⟩; rw [E2.out] at he hV6 hS6; simp only at he hV6 hS6; subst he; obtain ⟨a6, c6, rfl⟩ := hV6.form; have HG6 := Lib.hid hS6; have HH6 := Lib.hid ((HH5.out.keep ((Fr.refl (fun _ => False) w5).alloc _) id).keep hF6 (fun e => hGH e.symm)); have HF6 := Lib.hid (Fr.of_below0 (((HF5.out.mono (S' := fun k => k = G) (fun _ _ => False.elim)).trans (hF6.trans' ((Fr.refl (fun _ => False) w5).alloc _)) (fun _ _ => id)).fresh (fun k hk e => by omega))); have hl6 := Nat.lt_of_lt_of_le hl5 (hF6.trans' ((Fr.refl (fun _ => False) w5).alloc _)).size; clear hV6 hO6 hS6 hF6))
  go_wp2_with fail
  go_loopw [10] (fun i wr => ∃ (iN : Nat) (S' : Sh), i = .int .i64 iN ∧ iN ≤ 20 ∧ UnkRel H G w6 S' wr) (fun i _ => 21 - (intOf i).toNat)
  case atStart => exact ⟨0, S1, rfl, by omega, ⟨F1.out, hph1, HH6.out, HG6.out, Fr.refl _ _⟩⟩
  case round =>
    obtain ⟨iN, S', rfl, hi20, hR⟩ := hrel
    rcases Decidable.em (iN < os.length ∧ iN < 20) with hA | hA
    · obtain ⟨kd, dv, dl, hr⟩ : ∃ kd dv dl, os[iN]? = some (kd, dv, dl) := ⟨_, _, _, List.getElem?_eq_getElem hA.1⟩
      obtain ⟨hk1, hk2, hbw, hdl⟩ := HO.out _ (List.mem_of_getElem? hr)
      simp only at hk1 hk2 hbw hdl
      obtain ⟨g, o, rfl, hg, hcs⟩ := HC.out (by intro e; rw [e] at hA; exact absurd hA.1 (by simp))
      have hF0r : Fr (fun k => k = H ∨ k = G) w wr := (HF6.out.mono (fun _ _ => False.elim)).trans hR.fr (fun _ _ => id)
      have q0 := hF0r.cell (hcs _ _ (ocells_get0 hr)) (by simp only; omega)
      have q1 : wr.cell? ⟨g, o + iN * 2 + 1, none⟩ = some dv := by
        have := hF0r.cell (hcs _ _ (ocells_get1 hr)) (by simp only; omega)
        rw [← Nat.add_assoc] at this
        exact this
      have hgr := Nat.lt_of_lt_of_le hg hF0r.size
      have HR := Lib.hid hR
      have HBW := Lib.hid hbw
      have HF0r := Lib.hid hF0r
      obtain ⟨hA1, hA2⟩ := hA
      clear hR hbw hF0r hr
      rcases Decidable.em (iN < zs.length) with hk | hk
      · obtain ⟨x, hx⟩ : ∃ x, zs.getD iN 0 = x := ⟨_, rfl⟩
        have hxb := HZ.out x (by rw [← hx, List.getD_eq_getElem?_getD, List.getElem?_eq_getElem hk]; exact List.getElem_mem hk)
        obtain ⟨g2, o2, rfl, hcell⟩ : ∃ g2 o2, a2 = some ⟨g2, o2, none⟩ ∧ wr.cell? ⟨g2, o2 + iN, none⟩ = some (.int .i64 x) := by
          have hv := HB2.out.keep HF0r.out (fun g hg e => by
            have h8 := HB2.out.lt g hg
            rcases e with e | e <;> omega)
          rcases ZV.cases hv with ⟨e, e2⟩ | ⟨g, o, c', e, _, _, h3⟩
          · rw [e2] at hk
            exact absurd hk (by simp)
          · cases e
            exact ⟨g, o, rfl, by rw [h3 iN hk, hx]⟩
        clear hx
        obtain ⟨kN, hkN⟩ : ∃ kN : Nat, x % 4294967296 % 1000 + 9 = (kN : Int) := ⟨(x % 4294967296 % 1000 + 9).toNat, by omega⟩
        have hk9 : 9 ≤ kN := by omega
        have hkb : kN < 256 ^ 4 := by omega
        obtain ⟨D, hD⟩ : ∃ D, dl.take 1000 = D := ⟨_, rfl⟩
        have hDl : D.length ≤ 1000 := by rw [← hD, List.length_take]; omega
        obtain ⟨M, hM⟩ : ∃ M, optMsg kN D = M := ⟨_, rfl⟩
        obtain ⟨ml, hml⟩ : ∃ ml, M.length = ml := ⟨_, rfl⟩
        have hml2 : ml = 16 + D.length := by rw [← hml, ← hM, optMsg_len]
        have hml3 : ml ≤ 1016 := by omega
        obtain ⟨k2, hk2⟩ : ∃ k2 : Nat, kd % 4294967296 % 9 = (k2 : Int) := ⟨(kd % 4294967296 % 9).toNat, by omega⟩
        have hk2b : k2 < 256 ^ 4 := by omega
        obtain ⟨M2, hM2⟩ : ∃ M, optMsg k2 D = M := ⟨_, rfl⟩
        have hM2l : M2.length ≤ 1016 := by rw [← hM2, optMsg_len]; omega
        obtain ⟨c2l, u2, S2, hf2⟩ : ∃ c u S2, S'.feed M2 = (c, u, S2) := ⟨_, _, _, rfl⟩
        have hfe : S2.Fine ∧ 1 ≤ S2.phase := by
          have e1 := Sh.feed_fine HR.out.fine M2
          have e2 := feed_phase HR.out.phase k2 D hk2b hDl
          rw [hM2] at e2
          rw [hf2] at e1 e2
          exact ⟨e1, e2⟩
        obtain ⟨R, hRR⟩ : ∃ R, optReplyB kN 2147483649 [] = R := ⟨_, rfl⟩
        have hRl : R.length = 20 := by rw [← hRR, optReplyB_len]; rfl
        have hfd1 : S'.phase = 1 → S'.feed M = (R, ml, S') := fun hp => by
          rw [← hM, feed_opt hp kN D hkb hDl, opt_unknown kN D (by omega), ← hRR, hml2]
          rfl
        have hfd2 : ¬ S'.phase = 1 → S'.feed M = ([], 0, S') := fun hp => Sh.feed_over (by have := HR.out.phase; omega)
        have HKB := Lib.hid hkb
        have HK2 := Lib.hid hk2b
        have XD := Lib.hid hD
        have XM := Lib.hid hM
        have XL := Lib.hid hml
        have XM2 := Lib.hid hM2
        have XM2l := Lib.hid hM2l
        have XF2 := Lib.hid hf2
        have XFE := Lib.hid hfe
        have XR := Lib.hid hRR
        have XRl := Lib.hid hRl
        have HBWr := Lib.hid ((show BW w dv dl from HBW.out))
        clear hD hM hml hml2 hM2 hM2l hf2 hfe hRR hRl hDl hkb hk2b
        have hFr := HR.out.fr
        have bw0 : Hid (∀ w7, Fr (fun k => k = H ∨ k = G) w w7 → BW w7 dv dl) := Lib.hid (fun w7 hf => by
          rcases HBWr.out with h | h
          · exact .inl (h.keep hf (fun g hg e => by have := h.lt g hg; rcases e with e | e <;> omega))
          · exact .inr h)
        obtain ⟨adv, cdv, rfl⟩ := HBWr.out.form
        have hGr := lt_of_heap HR.out.g
        have hHr := lt_of_heap HR.out.h
        clear hFr
        go_upto_region 15 with (go_at_call 27; go_loud (refine (option_any kN _ dl wr HKB.out (bw0.out wr HF0r.out) hdl).mono ?_; rintro e w7 ⟨v7, rfl, hF7⟩; rw [XD.out, XM.out] at hF7; obtain ⟨a7, c7, rfl⟩ := hF7.1.form; rw [XL.out] at hF7; rw [XL.out]; have hG7 := Nat.lt_of_lt_of_le hGr hF7.2.2.size; have X7 := Lib.hid hF7; clear hF7))
        rcases Decidable.em (S'.phase = 1) with hp | hp
        · have hfd := Lib.hid (hfd1 hp)
          have hp1 : ((S'.phase : Int) == 1) = true := by rw [hp]; decide
          clear hfd1 hfd2 hp
          have hrr : (R == R) = true := by simp
          go_upto_region 20 with (first
            | (go_at_call 20; go_loud (refine (feed_any G S' _ M w7 (HR.out.g.keep X7.out.2.2 id) HR.out.fine X7.out.1.rd (by rw [XL.out]; omega) (fun g hg => by have := X7.out.2.1 g hg; omega)).mono ?_; rintro e w8 ⟨v8, he, hV8, hO8, hS8, hF8⟩; rw [hfd.out] at he hV8 hS8; simp only at he hV8 hS8; subst he; obtain ⟨a8, c8, rfl⟩ := hV8.form; have V8 := Lib.hid hV8; have O8 := Lib.hid hO8; have G8 := Lib.hid hS8; have H8 := Lib.hid ((HR.out.h.keep X7.out.2.2 id).keep hF8 (fun e => hGH e.symm)); have F8 := Lib.hid ((X7.out.2.2.mono (S' := fun k => k = H ∨ k = G) (fun _ _ => False.elim)).trans hF8 (fun _ _ e => .inr e)); clear hV8 hO8 hS8 hF8))
            | (go_at_call 24; go_loud (refine (phase_any G S' w8 G8.out).mono ?_; rintro e w' ⟨rfl, rfl⟩))
            | (go_at_call 22; go_loud (refine (rOptionReply_any kN 2147483649 _ [] w8 HKB.out (by decide) (.inl (Rd.nil _ _)) (by decide)).mono ?_; rintro e w9 ⟨v9, rfl, hF9⟩; rw [XR.out] at hF9; obtain ⟨a9, c9, rfl⟩ := hF9.1.form; have X9 := Lib.hid hF9; have V9 := Lib.hid (V8.out.rd.keep hF9.2.2 (fun _ _ => id)); clear hF9))
            | (go_at_call 21; go_loud (refine (same_any _ _ R R w9 V9.out X9.out.1.rd).mono ?_; rintro e w' ⟨rfl, rfl⟩; rw [hrr])))
          have QH := Lib.hid (H8.out.keep X9.out.2.2 id)
          have QG := Lib.hid (G8.out.keep X9.out.2.2 id)
          have QF := Lib.hid (F8.out.trans X9.out.2.2 (fun _ _ => False.elim))

          have QF9 := Lib.hid (HF0r.out.trans QF.out (fun _ _ => id))
          have q0' := QF.out.cell q0 (by simp only; omega)
          have q1' := QF.out.cell q1 (by simp only; omega)
          have hgr' := Nat.lt_of_lt_of_le hgr QF.out.size
          have hGW := lt_of_heap QG.out
          clear q0 q1
          refine wp_drawn (by kernel_rfl) ?_
          -- 0: move
          refine wpY_pure0 0 rfl rfl (by kernel_rfl) (by kernel_rfl) (fun K hK => ?_); go_wp2_with fail
          -- 1: move
          refine wpY_pure0 1 rfl rfl (by kernel_rfl) (by kernel_rfl) (fun K hK => ?_); go_wp2_with fail
          -- 2: indexAddr
          refine wpY_pure0 2 rfl rfl (by kernel_rfl) (by kernel_rfl) (fun K hK => ?_); go_wp2_with fail
          -- 3: fieldAddr
          refine wpY_pure0 3 rfl rfl (by kernel_rfl) (by kernel_rfl) (fun K hK => ?_); go_wp2_with fail
          -- 8: move
          refine wpY_pure0 8 rfl rfl (by kernel_rfl) (by kernel_rfl) (fun K hK => ?_); go_wp2_with fail
          -- 9: move
          refine wpY_pure0 9 rfl rfl (by kernel_rfl) (by kernel_rfl) (fun K hK => ?_); go_wp2_with fail
          -- 10: indexAddr
          refine wpY_pure0 10 rfl rfl (by kernel_rfl) (by kernel_rfl) (fun K hK => ?_); go_wp2_with fail
          -- 11: fieldAddr
          refine wpY_pure0 11 rfl rfl (by kernel_rfl) (by kernel_rfl) (fun K hK => ?_); go_wp2_with fail
          -- 4: load
          refine wpY_read0 4 rfl rfl (by kernel_rfl) rfl (fun K hK => ?_); go_wp2_with fail
          -- 5: convert
          refine wpY_pure0 5 rfl rfl (by kernel_rfl) (by kernel_rfl) (fun K hK => ?_); go_wp2_with fail
          -- 6: binOp
          refine wpY_pure0 6 rfl rfl (by kernel_rfl) (by kernel_rfl) (fun K hK => ?_); go_wp2_with fail
          -- 7: convert
          refine wpY_pure0 7 rfl rfl (by kernel_rfl) (by kernel_rfl) (fun K hK => ?_); go_wp2_with fail
          -- 12: load
          refine wpY_read0 12 rfl rfl (by kernel_rfl) rfl (fun K hK => ?_); go_wp2_with fail
          -- 13: call
          refine wpY_one0 13 [] rfl rfl (by kernel_rfl) (by kernel_rfl) (fun K hK => ?_)
          go_wp2_with (go_at_call 27; go_loud (refine (option_any k2 _ dl _ HK2.out (bw0.out _ (Fr.drew QF9.out)) hdl).mono ?_; rintro e w10 ⟨v10, rfl, hF10⟩; rw [XD.out, XM2.out] at hF10; obtain ⟨a10, c10, rfl⟩ := hF10.1.form; have hf10 := hF10.2.2.trans' (Fr.drew (Fr.refl (fun _ => False) w9)); have X10 := Lib.hid hF10; have F10 := Lib.hid hf10; have hGW10 := Nat.lt_of_lt_of_le hGW hf10.size; have O10 : Hid (∀ g, (Value.slice a10 M2.length c10).ownBlock = some g → w9.heap.size ≤ g) := Lib.hid hF10.2.1; clear hF10 hf10))
          refine ⟨trivial, ?_⟩
          -- 14: assign
          refine wpY_pure0 14 rfl rfl (by kernel_rfl) (by kernel_rfl) (fun K hK => ?_); go_wp2_with fail
          refine wpY_done (by kernel_rfl) ?_ _
          go_upto_region 22 with (go_at_call 20; go_loud (refine (feed_any H S' _ M2 w10 (QH.out.keep F10.out id) HR.out.fine X10.out.1.rd (by have := XM2l.out; omega) (fun g hg => by have := O10.out g hg; omega)).mono ?_; rintro e w11 ⟨v11, he, hV11, hO11, hS11, hF11⟩; rw [XF2.out] at he hV11 hS11; simp only at he hV11 hS11; subst he; obtain ⟨a11, c11, rfl⟩ := hV11.form; have V11 := Lib.hid hV11; have O11 := Lib.hid hO11; have H11 := Lib.hid hS11; have G11 := Lib.hid ((QG.out.keep F10.out id).keep hF11 (fun e => hGH e)); have F11 := Lib.hid hF11; have B11 := Lib.hid (X10.out.1.rd.keep hF11 (fun g hg e => by have := O10.out g hg; omega)); have hGW11 := Nat.lt_of_lt_of_le hGW10 hF11.size; clear hV11 hO11 hS11 hF11))
          go_upto_region 23 with (go_at_call 20; go_loud (refine (feed_any G S' _ M2 w11 G11.out HR.out.fine B11.out (by have := XM2l.out; omega) (fun g hg => by have := O10.out g hg; omega)).mono ?_; rintro e w12 ⟨v12, he, hV12, hO12, hS12, hF12⟩; rw [XF2.out] at he hV12 hS12; simp only at he hV12 hS12; subst he; obtain ⟨a12, c12, rfl⟩ := hV12.form; have V12 := Lib.hid hV12; have G12 := Lib.hid hS12; have H12 := Lib.hid (H11.out.keep hF12 (fun e => hGH e.symm)); have F12 := Lib.hid hF12; have V11' := Lib.hid (V11.out.rd.keep hF12 (fun g hg e => by have := O11.out g hg; omega)); clear hV12 hO12 hS12 hF12))
          have hss : (c2l == c2l) = true := by simp
          go_wp2_with (first
            | (go_at_call 21; go_loud (refine (same_any _ _ c2l c2l w12 V11'.out V12.out.rd).mono ?_; rintro e w' ⟨rfl, rfl⟩; rw [hss]))
            | (go_at_call 24; refine (phase_any _ S2 w12 ?_).mono ?_; (first | exact H12.out | exact G12.out); rintro e w' ⟨rfl, rfl⟩)
            | (go_at_call 26; refine (structured_any _ S2 w12 ?_).mono ?_; (first | exact H12.out | exact G12.out); rintro e w' ⟨rfl, rfl⟩))
          have X : UnkRel H G w6 S2 w12 := ⟨XFE.out.1, XFE.out.2, H12.out, G12.out, (((HR.out.fr.trans QF.out (fun _ _ => id)).trans F10.out (fun _ _ => False.elim)).trans F11.out (fun _ _ e => .inl e)).trans F12.out (fun _ _ e => .inr e)⟩
          go_roundw
          case rel => first | exact ⟨iN + 1, S2, by go_num, by omega, X⟩ | ((repeat apply Exists.intro); exact ⟨⟨iN + 1, S2, by go_num, by omega, X⟩, rfl⟩)
          case measure => simp [intOf]; omega
        · have hfd := Lib.hid (hfd2 hp)
          have hp1 : ((S'.phase : Int) == 1) = false := by simp; omega
          clear hfd1 hfd2 hp
          go_upto_region 20 with (first
            | (go_at_call 20; go_loud (refine (feed_any G S' _ M w7 (HR.out.g.keep X7.out.2.2 id) HR.out.fine X7.out.1.rd (by rw [XL.out]; omega) (fun g hg => by have := X7.out.2.1 g hg; omega)).mono ?_; rintro e w8 ⟨v8, he, hV8, hO8, hS8, hF8⟩; rw [hfd.out] at he hV8 hS8; simp only at he hV8 hS8; subst he; obtain ⟨a8, c8, rfl⟩ := hV8.form; have V8 := Lib.hid hV8; have O8 := Lib.hid hO8; have G8 := Lib.hid hS8; have H8 := Lib.hid ((HR.out.h.keep X7.out.2.2 id).keep hF8 (fun e => hGH e.symm)); have F8 := Lib.hid ((X7.out.2.2.mono (S' := fun k => k = H ∨ k = G) (fun _ _ => False.elim)).trans hF8 (fun _ _ e => .inr e)); clear hV8 hO8 hS8 hF8))
            | (go_at_call 24; go_loud (refine (phase_any G S' w8 G8.out).mono ?_; rintro e w' ⟨rfl, rfl⟩)))
          have QH := H8
          have QG := G8
          have QF := F8

          have QF9 := Lib.hid (HF0r.out.trans QF.out (fun _ _ => id))
          have q0' := QF.out.cell q0 (by simp only; omega)
          have q1' := QF.out.cell q1 (by simp only; omega)
          have hgr' := Nat.lt_of_lt_of_le hgr QF.out.size
          have hGW := lt_of_heap QG.out
          clear q0 q1
          refine wp_drawn (by kernel_rfl) ?_
          -- 0: move
          refine wpY_pure0 0 rfl rfl (by kernel_rfl) (by kernel_rfl) (fun K hK => ?_); go_wp2_with fail
          -- 1: move
          refine wpY_pure0 1 rfl rfl (by kernel_rfl) (by kernel_rfl) (fun K hK => ?_); go_wp2_with fail
          -- 2: indexAddr
          refine wpY_pure0 2 rfl rfl (by kernel_rfl) (by kernel_rfl) (fun K hK => ?_); go_wp2_with fail
          -- 3: fieldAddr
          refine wpY_pure0 3 rfl rfl (by kernel_rfl) (by kernel_rfl) (fun K hK => ?_); go_wp2_with fail
          -- 8: move
          refine wpY_pure0 8 rfl rfl (by kernel_rfl) (by kernel_rfl) (fun K hK => ?_); go_wp2_with fail
          -- 9: move
          refine wpY_pure0 9 rfl rfl (by kernel_rfl) (by kernel_rfl) (fun K hK => ?_); go_wp2_with fail
          -- 10: indexAddr
          refine wpY_pure0 10 rfl rfl (by kernel_rfl) (by kernel_rfl) (fun K hK => ?_); go_wp2_with fail
          -- 11: fieldAddr
          refine wpY_pure0 11 rfl rfl (by kernel_rfl) (by kernel_rfl) (fun K hK => ?_); go_wp2_with fail
          -- 4: load
          refine wpY_read0 4 rfl rfl (by kernel_rfl) rfl (fun K hK => ?_); go_wp2_with fail
          -- 5: convert
          refine wpY_pure0 5 rfl rfl (by kernel_rfl) (by kernel_rfl) (fun K hK => ?_); go_wp2_with fail
          -- 6: binOp
          refine wpY_pure0 6 rfl rfl (by kernel_rfl) (by kernel_rfl) (fun K hK => ?_); go_wp2_with fail
          -- 7: convert
          refine wpY_pure0 7 rfl rfl (by kernel_rfl) (by kernel_rfl) (fun K hK => ?_); go_wp2_with fail
          -- 12: load
          refine wpY_read0 12 rfl rfl (by kernel_rfl) rfl (fun K hK => ?_); go_wp2_with fail
          -- 13: call
          refine wpY_one0 13 [] rfl rfl (by kernel_rfl) (by kernel_rfl) (fun K hK => ?_)
          go_wp2_with (go_at_call 27; go_loud (refine (option_any k2 _ dl _ HK2.out (bw0.out _ (Fr.drew QF9.out)) hdl).mono ?_; rintro e w10 ⟨v10, rfl, hF10⟩; rw [XD.out, XM2.out] at hF10; obtain ⟨a10, c10, rfl⟩ := hF10.1.form; have hf10 := hF10.2.2.trans' (Fr.drew (Fr.refl (fun _ => False) w8)); have X10 := Lib.hid hF10; have F10 := Lib.hid hf10; have hGW10 := Nat.lt_of_lt_of_le hGW hf10.size; have O10 : Hid (∀ g, (Value.slice a10 M2.length c10).ownBlock = some g → w8.heap.size ≤ g) := Lib.hid hF10.2.1; clear hF10 hf10))
          refine ⟨trivial, ?_⟩
          -- 14: assign
          refine wpY_pure0 14 rfl rfl (by kernel_rfl) (by kernel_rfl) (fun K hK => ?_); go_wp2_with fail
          refine wpY_done (by kernel_rfl) ?_ _
          go_upto_region 22 with (go_at_call 20; go_loud (refine (feed_any H S' _ M2 w10 (QH.out.keep F10.out id) HR.out.fine X10.out.1.rd (by have := XM2l.out; omega) (fun g hg => by have := O10.out g hg; omega)).mono ?_; rintro e w11 ⟨v11, he, hV11, hO11, hS11, hF11⟩; rw [XF2.out] at he hV11 hS11; simp only at he hV11 hS11; subst he; obtain ⟨a11, c11, rfl⟩ := hV11.form; have V11 := Lib.hid hV11; have O11 := Lib.hid hO11; have H11 := Lib.hid hS11; have G11 := Lib.hid ((QG.out.keep F10.out id).keep hF11 (fun e => hGH e)); have F11 := Lib.hid hF11; have B11 := Lib.hid (X10.out.1.rd.keep hF11 (fun g hg e => by have := O10.out g hg; omega)); have hGW11 := Nat.lt_of_lt_of_le hGW10 hF11.size; clear hV11 hO11 hS11 hF11))
          go_upto_region 23 with (go_at_call 20; go_loud (refine (feed_any G S' _ M2 w11 G11.out HR.out.fine B11.out (by have := XM2l.out; omega) (fun g hg => by have := O10.out g hg; omega)).mono ?_; rintro e w12 ⟨v12, he, hV12, hO12, hS12, hF12⟩; rw [XF2.out] at he hV12 hS12; simp only at he hV12 hS12; subst he; obtain ⟨a12, c12, rfl⟩ := hV12.form; have V12 := Lib.hid hV12; have G12 := Lib.hid hS12; have H12 := Lib.hid (H11.out.keep hF12 (fun e => hGH e.symm)); have F12 := Lib.hid hF12; have V11' := Lib.hid (V11.out.rd.keep hF12 (fun g hg e => by have := O11.out g hg; omega)); clear hV12 hO12 hS12 hF12))
          have hss : (c2l == c2l) = true := by simp
          go_wp2_with (first
            | (go_at_call 21; go_loud (refine (same_any _ _ c2l c2l w12 V11'.out V12.out.rd).mono ?_; rintro e w' ⟨rfl, rfl⟩; rw [hss]))
            | (go_at_call 24; refine (phase_any _ S2 w12 ?_).mono ?_; (first | exact H12.out | exact G12.out); rintro e w' ⟨rfl, rfl⟩)
            | (go_at_call 26; refine (structured_any _ S2 w12 ?_).mono ?_; (first | exact H12.out | exact G12.out); rintro e w' ⟨rfl, rfl⟩))
          have X : UnkRel H G w6 S2 w12 := ⟨XFE.out.1, XFE.out.2, H12.out, G12.out, (((HR.out.fr.trans QF.out (fun _ _ => id)).trans F10.out (fun _ _ => False.elim)).trans F11.out (fun _ _ e => .inl e)).trans F12.out (fun _ _ e => .inr e)⟩
          go_roundw
          case rel => first | exact ⟨iN + 1, S2, by go_num, by omega, X⟩ | ((repeat apply Exists.intro); exact ⟨⟨iN + 1, S2, by go_num, by omega, X⟩, rfl⟩)
          case measure => simp [intOf]; omega
      · have hk9 : (9 : Nat) ≤ 100 := by decide
        have hkb : 100 < 256 ^ 4 := by omega
        obtain ⟨D, hD⟩ : ∃ D, dl.take 1000 = D := ⟨_, rfl⟩
        have hDl : D.length ≤ 1000 := by rw [← hD, List.length_take]; omega
        obtain ⟨M, hM⟩ : ∃ M, optMsg 100 D = M := ⟨_, rfl⟩
        obtain ⟨ml, hml⟩ : ∃ ml, M.length = ml := ⟨_, rfl⟩
        have hml2 : ml = 16 + D.length := by rw [← hml, ← hM, optMsg_len]
        have hml3 : ml ≤ 1016 := by omega
        obtain ⟨k2, hk2⟩ : ∃ k2 : Nat, kd % 4294967296 % 9 = (k2 : Int) := ⟨(kd % 4294967296 % 9).toNat, by omega⟩
        have hk2b : k2 < 256 ^ 4 := by omega
        obtain ⟨M2, hM2⟩ : ∃ M, optMsg k2 D = M := ⟨_, rfl⟩
        have hM2l : M2.length ≤ 1016 := by rw [← hM2, optMsg_len]; omega
        obtain ⟨c2l, u2, S2, hf2⟩ : ∃ c u S2, S'.feed M2 = (c, u, S2) := ⟨_, _, _, rfl⟩
        have hfe : S2.Fine ∧ 1 ≤ S2.phase := by
          have e1 := Sh.feed_fine HR.out.fine M2
          have e2 := feed_phase HR.out.phase k2 D hk2b hDl
          rw [hM2] at e2
          rw [hf2] at e1 e2
          exact ⟨e1, e2⟩
        obtain ⟨R, hRR⟩ : ∃ R, optReplyB 100 2147483649 [] = R := ⟨_, rfl⟩
        have hRl : R.length = 20 := by rw [← hRR, optReplyB_len]; rfl
        have hfd1 : S'.phase = 1 → S'.feed M = (R, ml, S') := fun hp => by
          rw [← hM, feed_opt hp 100 D hkb hDl, opt_unknown 100 D (by omega), ← hRR, hml2]
          rfl
        have hfd2 : ¬ S'.phase = 1 → S'.feed M = ([], 0, S') := fun hp => Sh.feed_over (by have := HR.out.phase; omega)
        have HKB := Lib.hid hkb
        have HK2 := Lib.hid hk2b
        have XD := Lib.hid hD
        have XM := Lib.hid hM
        have XL := Lib.hid hml
        have XM2 := Lib.hid hM2
        have XM2l := Lib.hid hM2l
        have XF2 := Lib.hid hf2
        have XFE := Lib.hid hfe
        have XR := Lib.hid hRR
        have XRl := Lib.hid hRl
        have HBWr := Lib.hid ((show BW w dv dl from HBW.out))
        clear hD hM hml hml2 hM2 hM2l hf2 hfe hRR hRl hDl hkb hk2b
        have hFr := HR.out.fr
        have bw0 : Hid (∀ w7, Fr (fun k => k = H ∨ k = G) w w7 → BW w7 dv dl) := Lib.hid (fun w7 hf => by
          rcases HBWr.out with h | h
          · exact .inl (h.keep hf (fun g hg e => by have := h.lt g hg; rcases e with e | e <;> omega))
          · exact .inr h)
        obtain ⟨adv, cdv, rfl⟩ := HBWr.out.form
        have hGr := lt_of_heap HR.out.g
        have hHr := lt_of_heap HR.out.h
        clear hFr
        go_upto_region 15 with (go_at_call 27; go_loud (refine (option_any 100 _ dl wr HKB.out (bw0.out wr HF0r.out) hdl).mono ?_; rintro e w7 ⟨v7, rfl, hF7⟩; rw [XD.out, XM.out] at hF7; obtain ⟨a7, c7, rfl⟩ := hF7.1.form; rw [XL.out] at hF7; rw [XL.out]; have hG7 := Nat.lt_of_lt_of_le hGr hF7.2.2.size; have X7 := Lib.hid hF7; clear hF7))
        rcases Decidable.em (S'.phase = 1) with hp | hp
        · have hfd := Lib.hid (hfd1 hp)
          have hp1 : ((S'.phase : Int) == 1) = true := by rw [hp]; decide
          clear hfd1 hfd2 hp
          have hrr : (R == R) = true := by simp
          go_upto_region 20 with (first
            | (go_at_call 20; go_loud (refine (feed_any G S' _ M w7 (HR.out.g.keep X7.out.2.2 id) HR.out.fine X7.out.1.rd (by rw [XL.out]; omega) (fun g hg => by have := X7.out.2.1 g hg; omega)).mono ?_; rintro e w8 ⟨v8, he, hV8, hO8, hS8, hF8⟩; rw [hfd.out] at he hV8 hS8; simp only at he hV8 hS8; subst he; obtain ⟨a8, c8, rfl⟩ := hV8.form; have V8 := Lib.hid hV8; have O8 := Lib.hid hO8; have G8 := Lib.hid hS8; have H8 := Lib.hid ((HR.out.h.keep X7.out.2.2 id).keep hF8 (fun e => hGH e.symm)); have F8 := Lib.hid ((X7.out.2.2.mono (S' := fun k => k = H ∨ k = G) (fun _ _ => False.elim)).trans hF8 (fun _ _ e => .inr e)); clear hV8 hO8 hS8 hF8))
            | (go_at_call 24; go_loud (refine (phase_any G S' w8 G8.out).mono ?_; rintro e w' ⟨rfl, rfl⟩))
            | (go_at_call 22; go_loud (refine (rOptionReply_any 100 2147483649 _ [] w8 HKB.out (by decide) (.inl (Rd.nil _ _)) (by decide)).mono ?_; rintro e w9 ⟨v9, rfl, hF9⟩; rw [XR.out] at hF9; obtain ⟨a9, c9, rfl⟩ := hF9.1.form; have X9 := Lib.hid hF9; have V9 := Lib.hid (V8.out.rd.keep hF9.2.2 (fun _ _ => id)); clear hF9))
            | (go_at_call 21; go_loud (refine (same_any _ _ R R w9 V9.out X9.out.1.rd).mono ?_; rintro e w' ⟨rfl, rfl⟩; rw [hrr])))
          have QH := Lib.hid (H8.out.keep X9.out.2.2 id)
          have QG := Lib.hid (G8.out.keep X9.out.2.2 id)
          have QF := Lib.hid (F8.out.trans X9.out.2.2 (fun _ _ => False.elim))

          have QF9 := Lib.hid (HF0r.out.trans QF.out (fun _ _ => id))
          have q0' := QF.out.cell q0 (by simp only; omega)
          have q1' := QF.out.cell q1 (by simp only; omega)
          have hgr' := Nat.lt_of_lt_of_le hgr QF.out.size
          have hGW := lt_of_heap QG.out
          clear q0 q1
          refine wp_drawn (by kernel_rfl) ?_
          -- 0: move
          refine wpY_pure0 0 rfl rfl (by kernel_rfl) (by kernel_rfl) (fun K hK => ?_); go_wp2_with fail
          -- 1: move
          refine wpY_pure0 1 rfl rfl (by kernel_rfl) (by kernel_rfl) (fun K hK => ?_); go_wp2_with fail
          -- 2: indexAddr
          refine wpY_pure0 2 rfl rfl (by kernel_rfl) (by kernel_rfl) (fun K hK => ?_); go_wp2_with fail
          -- 3: fieldAddr
          refine wpY_pure0 3 rfl rfl (by kernel_rfl) (by kernel_rfl) (fun K hK => ?_); go_wp2_with fail
          -- 8: move
          refine wpY_pure0 8 rfl rfl (by kernel_rfl) (by kernel_rfl) (fun K hK => ?_); go_wp2_with fail
          -- 9: move
          refine wpY_pure0 9 rfl rfl (by kernel_rfl) (by kernel_rfl) (fun K hK => ?_); go_wp2_with fail
          -- 10: indexAddr
          refine wpY_pure0 10 rfl rfl (by kernel_rfl) (by kernel_rfl) (fun K hK => ?_); go_wp2_with fail
          -- 11: fieldAddr
          refine wpY_pure0 11 rfl rfl (by kernel_rfl) (by kernel_rfl) (fun K hK => ?_); go_wp2_with fail
          -- 4: load
          refine wpY_read0 4 rfl rfl (by kernel_rfl) rfl (fun K hK => ?_); go_wp2_with fail
          -- 5: convert
          refine wpY_pure0 5 rfl rfl (by kernel_rfl) (by kernel_rfl) (fun K hK => ?_); go_wp2_with fail
          -- 6: binOp
          refine wpY_pure0 6 rfl rfl (by kernel_rfl) (by kernel_rfl) (fun K hK => ?_); go_wp2_with fail
          -- 7: convert
          refine wpY_pure0 7 rfl rfl (by kernel_rfl) (by kernel_rfl) (fun K hK => ?_); go_wp2_with fail
          -- 12: load
          refine wpY_read0 12 rfl rfl (by kernel_rfl) rfl (fun K hK => ?_); go_wp2_with fail
          -- 13: call
          refine wpY_one0 13 [] rfl rfl (by kernel_rfl) (by kernel_rfl) (fun K hK => ?_)
          go_wp2_with (go_at_call 27; go_loud (refine (option_any k2 _ dl _ HK2.out (bw0.out _ (Fr.drew QF9.out)) hdl).mono ?_; rintro e w10 ⟨v10, rfl, hF10⟩; rw [XD.out, XM2.out] at hF10; obtain ⟨a10, c10, rfl⟩ := hF10.1.form; have hf10 := hF10.2.2.trans' (Fr.drew (Fr.refl (fun _ => False) w9)); have X10 := Lib.hid hF10; have F10 := Lib.hid hf10; have hGW10 := Nat.lt_of_lt_of_le hGW hf10.size; have O10 : Hid (∀ g, (Value.slice a10 M2.length c10).ownBlock = some g → w9.heap.size ≤ g) := Lib.hid hF10.2.1; clear hF10 hf10))
          refine ⟨trivial, ?_⟩
          -- 14: assign
          refine wpY_pure0 14 rfl rfl (by kernel_rfl) (by kernel_rfl) (fun K hK => ?_); go_wp2_with fail
          refine wpY_done (by kernel_rfl) ?_ _
          go_upto_region 22 with (go_at_call 20; go_loud (refine (feed_any H S' _ M2 w10 (QH.out.keep F10.out id) HR.out.fine X10.out.1.rd (by have := XM2l.out; omega) (fun g hg => by have := O10.out g hg; omega)).mono ?_; rintro e w11 ⟨v11, he, hV11, hO11, hS11, hF11⟩; rw [XF2.out] at he hV11 hS11; simp only at he hV11 hS11; subst he; obtain ⟨a11, c11, rfl⟩ := hV11.form; have V11 := Lib.hid hV11; have O11 := Lib.hid hO11; have H11 := Lib.hid hS11; have G11 := Lib.hid ((QG.out.keep F10.out id).keep hF11 (fun e => hGH e)); have F11 := Lib.hid hF11; have B11 := Lib.hid (X10.out.1.rd.keep hF11 (fun g hg e => by have := O10.out g hg; omega)); have hGW11 := Nat.lt_of_lt_of_le hGW10 hF11.size; clear hV11 hO11 hS11 hF11))
          go_upto_region 23 with (go_at_call 20; go_loud (refine (feed_any G S' _ M2 w11 G11.out HR.out.fine B11.out (by have := XM2l.out; omega) (fun g hg => by have := O10.out g hg; omega)).mono ?_; rintro e w12 ⟨v12, he, hV12, hO12, hS12, hF12⟩; rw [XF2.out] at he hV12 hS12; simp only at he hV12 hS12; subst he; obtain ⟨a12, c12, rfl⟩ := hV12.form; have V12 := Lib.hid hV12; have G12 := Lib.hid hS12; have H12 := Lib.hid (H11.out.keep hF12 (fun e => hGH e.symm)); have F12 := Lib.hid hF12; have V11' := Lib.hid (V11.out.rd.keep hF12 (fun g hg e => by have := O11.out g hg; omega)); clear hV12 hO12 hS12 hF12))
          have hss : (c2l == c2l) = true := by simp
          go_wp2_with (first
            | (go_at_call 21; go_loud (refine (same_any _ _ c2l c2l w12 V11'.out V12.out.rd).mono ?_; rintro e w' ⟨rfl, rfl⟩; rw [hss]))
            | (go_at_call 24; refine (phase_any _ S2 w12 ?_).mono ?_; (first | exact H12.out | exact G12.out); rintro e w' ⟨rfl, rfl⟩)
            | (go_at_call 26; refine (structured_any _ S2 w12 ?_).mono ?_; (first | exact H12.out | exact G12.out); rintro e w' ⟨rfl, rfl⟩))
          have X : UnkRel H G w6 S2 w12 := ⟨XFE.out.1, XFE.out.2, H12.out, G12.out, (((HR.out.fr.trans QF.out (fun _ _ => id)).trans F10.out (fun _ _ => False.elim)).trans F11.out (fun _ _ e => .inl e)).trans F12.out (fun _ _ e => .inr e)⟩
          go_roundw
          case rel => first | exact ⟨iN + 1, S2, by go_num, by omega, X⟩ | ((repeat apply Exists.intro); exact ⟨⟨iN + 1, S2, by go_num, by omega, X⟩, rfl⟩)
          case measure => simp [intOf]; omega
        · have hfd := Lib.hid (hfd2 hp)
          have hp1 : ((S'.phase : Int) == 1) = false := by simp; omega
          clear hfd1 hfd2 hp
          go_upto_region 20 with (first
            | (go_at_call 20; go_loud (refine (feed_any G S' _ M w7 (HR.out.g.keep X7.out.2.2 id) HR.out.fine X7.out.1.rd (by rw [XL.out]; omega) (fun g hg => by have := X7.out.2.1 g hg; omega)).mono ?_; rintro e w8 ⟨v8, he, hV8, hO8, hS8, hF8⟩; rw [hfd.out] at he hV8 hS8; simp only at he hV8 hS8; subst he; obtain ⟨a8, c8, rfl⟩ := hV8.form; have V8 := Lib.hid hV8; have O8 := Lib.hid hO8; have G8 := Lib.hid hS8; have H8 := Lib.hid ((HR.out.h.keep X7.out.2.2 id).keep hF8 (fun e => hGH e.symm)); have F8 := Lib.hid ((X7.out.2.2.mono (S' := fun k => k = H ∨ k = G) (fun _ _ => False.elim)).trans hF8 (fun _ _ e => .inr e)); clear hV8 hO8 hS8 hF8))
            | (go_at_call 24; go_loud (refine (phase_any G S' w8 G8.out).mono ?_; rintro e w' ⟨rfl, rfl⟩)))
          have QH := H8
          have QG := G8
          have QF := F8

          have QF9 := Lib.hid (HF0r.out.trans QF.out (fun _ _ => id))
          have q0' := QF.out.cell q0 (by simp only; omega)
          have q1' := QF.out.cell q1 (by simp only; omega)
          have hgr' := Nat.lt_of_lt_of_le hgr QF.out.size
          have hGW := lt_of_heap QG.out
          clear q0 q1
          refine wp_drawn (by kernel_rfl) ?_
          -- 0: move
          refine wpY_pure0 0 rfl rfl (by kernel_rfl) (by kernel_rfl) (fun K hK => ?_); go_wp2_with fail
          -- 1: move
          refine wpY_pure0 1 rfl rfl (by kernel_rfl) (by kernel_rfl) (fun K hK => ?_); go_wp2_with fail
          -- 2: indexAddr
          refine wpY_pure0 2 rfl rfl (by kernel_rfl) (by kernel_rfl) (fun K hK => ?_); go_wp2_with fail
          -- 3: fieldAddr
          refine wpY_pure0 3 rfl rfl (by kernel_rfl) (by kernel_rfl) (fun K hK => ?_); go_wp2_with fail
          -- 8: move
          refine wpY_pure0 8 rfl rfl (by kernel_rfl) (by kernel_rfl) (fun K hK => ?_); go_wp2_with fail
          -- 9: move
          refine wpY_pure0 9 rfl rfl (by kernel_rfl) (by kernel_rfl) (fun K hK => ?_); go_wp2_with fail
          -- 10: indexAddr
          refine wpY_pure0 10 rfl rfl (by kernel_rfl) (by kernel_rfl) (fun K hK => ?_); go_wp2_with fail
          -- 11: fieldAddr
          refine wpY_pure0 11 rfl rfl (by kernel_rfl) (by kernel_rfl) (fun K hK => ?_); go_wp2_with fail
          -- 4: load
          refine wpY_read0 4 rfl rfl (by kernel_rfl) rfl (fun K hK => ?_); go_wp2_with fail
          -- 5: convert
          refine wpY_pure0 5 rfl rfl (by kernel_rfl) (by kernel_rfl) (fun K hK => ?_); go_wp2_with fail
          -- 6: binOp
          refine wpY_pure0 6 rfl rfl (by kernel_rfl) (by kernel_rfl) (fun K hK => ?_); go_wp2_with fail
          -- 7: convert
          refine wpY_pure0 7 rfl rfl (by kernel_rfl) (by kernel_rfl) (fun K hK => ?_); go_wp2_with fail
          -- 12: load
          refine wpY_read0 12 rfl rfl (by kernel_rfl) rfl (fun K hK => ?_); go_wp2_with fail
          -- 13: call
          refine wpY_one0 13 [] rfl rfl (by kernel_rfl) (by kernel_rfl) (fun K hK => ?_)
          go_wp2_with (go_at_call 27; go_loud (refine (option_any k2 _ dl _ HK2.out (bw0.out _ (Fr.drew QF9.out)) hdl).mono ?_; rintro e w10 ⟨v10, rfl, hF10⟩; rw [XD.out, XM2.out] at hF10; obtain ⟨a10, c10, rfl⟩ := hF10.1.form; have hf10 := hF10.2.2.trans' (Fr.drew (Fr.refl (fun _ => False) w8)); have X10 := Lib.hid hF10; have F10 := Lib.hid hf10; have hGW10 := Nat.lt_of_lt_of_le hGW hf10.size; have O10 : Hid (∀ g, (Value.slice a10 M2.length c10).ownBlock = some g → w8.heap.size ≤ g) := Lib.hid hF10.2.1; clear hF10 hf10))
          refine ⟨trivial, ?_⟩
          -- 14: assign
          refine wpY_pure0 14 rfl rfl (by kernel_rfl) (by kernel_rfl) (fun K hK => ?_); go_wp2_with fail
          refine wpY_done (by kernel_rfl) ?_ _
          go_upto_region 22 with (go_at_call 20; go_loud (refine (feed_any H S' _ M2 w10 (QH.out.keep F10.out id) HR.out.fine X10.out.1.rd (by have := XM2l.out; omega) (fun g hg => by have := O10.out g hg; omega)).mono ?_; rintro e w11 ⟨v11, he, hV11, hO11, hS11, hF11⟩; rw [XF2.out] at he hV11 hS11; simp only at he hV11 hS11; subst he; obtain ⟨a11, c11, rfl⟩ := hV11.form; have V11 := Lib.hid hV11; have O11 := Lib.hid hO11; have H11 := Lib.hid hS11; have G11 := Lib.hid ((QG.out.keep F10.out id).keep hF11 (fun e => hGH e)); have F11 := Lib.hid hF11; have B11 := Lib.hid (X10.out.1.rd.keep hF11 (fun g hg e => by have := O10.out g hg; omega)); have hGW11 := Nat.lt_of_lt_of_le hGW10 hF11.size; clear hV11 hO11 hS11 hF11))
          go_upto_region 23 with (go_at_call 20; go_loud (refine (feed_any G S' _ M2 w11 G11.out HR.out.fine B11.out (by have := XM2l.out; omega) (fun g hg => by have := O10.out g hg; omega)).mono ?_; rintro e w12 ⟨v12, he, hV12, hO12, hS12, hF12⟩; rw [XF2.out] at he hV12 hS12; simp only at he hV12 hS12; subst he; obtain ⟨a12, c12, rfl⟩ := hV12.form; have V12 := Lib.hid hV12; have G12 := Lib.hid hS12; have H12 := Lib.hid (H11.out.keep hF12 (fun e => hGH e.symm)); have F12 := Lib.hid hF12; have V11' := Lib.hid (V11.out.rd.keep hF12 (fun g hg e => by have := O11.out g hg; omega)); clear hV12 hO12 hS12 hF12))
          have hss : (c2l == c2l) = true := by simp
          go_wp2_with (first
            | (go_at_call 21; go_loud (refine (same_any _ _ c2l c2l w12 V11'.out V12.out.rd).mono ?_; rintro e w' ⟨rfl, rfl⟩; rw [hss]))
            | (go_at_call 24; refine (phase_any _ S2 w12 ?_).mono ?_; (first | exact H12.out | exact G12.out); rintro e w' ⟨rfl, rfl⟩)
            | (go_at_call 26; refine (structured_any _ S2 w12 ?_).mono ?_; (first | exact H12.out | exact G12.out); rintro e w' ⟨rfl, rfl⟩))
          have X : UnkRel H G w6 S2 w12 := ⟨XFE.out.1, XFE.out.2, H12.out, G12.out, (((HR.out.fr.trans QF.out (fun _ _ => id)).trans F10.out (fun _ _ => False.elim)).trans F11.out (fun _ _ e => .inl e)).trans F12.out (fun _ _ e => .inr e)⟩
          go_roundw
          case rel => first | exact ⟨iN + 1, S2, by go_num, by omega, X⟩ | ((repeat apply Exists.intro); exact ⟨⟨iN + 1, S2, by go_num, by omega, X⟩, rfl⟩)
          case measure => simp [intOf]; omega
    · have hF := HF6.out
      have hfin : Fr (fun _ => False) w wr := Fr.of_below0 (((HF6.out.mono (S' := fun k => k = H ∨ k = G) (fun _ _ => False.elim)).trans hR.fr (fun _ _ => id)).fresh (fun k hk e => by rcases e with e | e <;> omega))
      have HFIN := Lib.hid hfin
      clear hfin hR hF
      go_wp2_with fail
      all_goals
        go_returns
        exact ⟨rfl, HFIN.out⟩

end Go.Proofs.Ytpelpmhopmefoaa
