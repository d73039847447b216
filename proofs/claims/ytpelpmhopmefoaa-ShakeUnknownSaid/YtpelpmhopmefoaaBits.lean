/-
cofferdamlaw21: the walk of ShakeBits.
-/
import Derived.Test.YtpelpmhopmefoaaBitsP
import Derived.Test.YtpelpmhopmefoaaCame1
namespace Go.Proofs.Ytpelpmhopmefoaa
open Go.RowKit Go.Cof
set_option maxRecDepth 100000
set_option linter.unusedSimpArgs false

theorem BV.cut_all {w : World} {a : Option Addr} {n c : Nat} {l : List UInt8} (h : BV w (.slice a n c) l) (u t : Nat) (hu : u ≤ t) (ht : t ≤ l.length) (hc : c = u) : BV w (.slice a (t - u) 0) ((l.drop u).take (t - u)) := by
  have h1 := BV.from_all h u (by omega) hc
  exact BV.take h1 (t - u) (by rw [List.length_drop]; omega)
theorem BV.cut_on {w : World} {a : Option Addr} {n c : Nat} {l : List UInt8} (h : BV w (.slice a n c) l) (u t : Nat) (hu : u ≤ t) (ht : t ≤ l.length) (hc : ¬ c = u) : BV w (.slice (a.map fun x => x.add u) (t - u) (c - u)) ((l.drop u).take (t - u)) := by
  have h1 := BV.from_on h u (by omega) hc
  exact BV.take h1 (t - u) (by rw [List.length_drop]; omega)

theorem own_slice (a : Option Addr) (n c : Nat) : (Value.slice a n c).ownBlock = a.map (·.block) := by cases a <;> rfl
theorem own_same {a : Option Addr} {n c : Nat} {P : Nat → Prop} (h : ∀ g, (Value.slice a n c).ownBlock = some g → P g) (n' c' : Nat) : ∀ g, (Value.slice a n' c').ownBlock = some g → P g := fun g hg => h g (by rw [own_slice] at *; exact hg)
theorem own_add {a : Option Addr} {n c u : Nat} {P : Nat → Prop} (h : ∀ g, (Value.slice a n c).ownBlock = some g → P g) (n' c' : Nat) : ∀ g, (Value.slice (a.map fun x => x.add u) n' c').ownBlock = some g → P g := fun g hg => h g (by
  rw [own_slice] at *
  cases a with
  | none => cases hg
  | some x =>
    rw [← hg]
    simp only [Option.map_some, Option.some.injEq, Addr.add]
    split <;> rfl)

structure BitsRel (b : List UInt8) (L : Nat) (R : List UInt8 × Nat × Sh) (G : Nat) (w4 : World) (i at' taken : Nat) (c : List UInt8) (S' : Sh) (cv : Value) (wr : World) : Prop where
  hi : i ≤ min L 39 + 1
  htk : taken ≤ at'
  hat : at' ≤ b.length
  own : Own w4 wr c cv
  sh : ShAt wr G S'
  fr : Fr (fun k => k = G) w4 wr
  fine : S'.Fine
  behind : Behind c taken (S'.feed (b.drop taken)) R
  len : c.length ≤ 200 * taken
  over : i = min L 39 + 1 → S'.feed (b.drop taken) = ([], 0, S')

theorem BitsRel.next {b : List UInt8} {L : Nat} {R : List UInt8 × Nat × Sh} {G : Nat} {w4 : World} {i at' taken : Nat} {c : List UInt8} {S' : Sh} {cv : Value} {wr : World} (h : BitsRel b L R G w4 i at' taken c S' cv wr) (hi : i ≤ min L 39) (t : Nat) (h1 : at' ≤ t) (h2 : t ≤ b.length) (hlast : i = min L 39 → t = b.length)
    (q : List UInt8 × Nat × Sh) (hq : S'.feed ((b.drop taken).take (t - taken)) = q) {cv' : Value} {w' : World} (ho : Own w4 w' (c ++ q.1) cv') (hs : ShAt w' G q.2.2) (hf : Fr (fun k => k = G) w4 w') : BitsRel b L R G w4 (i + 1) t (taken + q.2.1) (c ++ q.1) q.2.2 cv' w' := by
  have ht := h.htk
  have hle : q.2.1 ≤ t - taken := by
    rw [← hq]
    have := S'.feed_le ((b.drop taken).take (t - taken))
    rw [List.length_take, List.length_drop] at this
    omega
  refine ⟨by omega, by omega, h2, ho, hs, hf, by rw [← hq]; exact Sh.feed_fine h.fine _, h.behind.step (k := t - taken) (by omega) q hq, ?_, fun e => ?_⟩
  · have h3 := Sh.feed_len h.fine ((b.drop taken).take (t - taken))
    rw [hq] at h3
    have h4 := h.len
    rw [List.length_append]
    omega
  · have e2 := hlast (by omega)
    subst e2
    have := S'.feed_again ((b.drop taken).take (b.length - taken))
    have e3 : (b.drop taken).take (b.length - taken) = b.drop taken := List.take_of_length_le (by rw [List.length_drop]; omega)
    rw [e3] at hq
    rw [e3, hq, List.drop_drop] at this
    exact this

set_option maxHeartbeats 4000000 in
theorem shakeBits_walk (n : List UInt8) (z : Int) (r : Bool) (v1 v2 : Value) (b : List UInt8) (cl : List Int) (w : World) (h1 : -9223372036854775808 ≤ z) (h2 : z ≤ 9223372036854775807) (hn : n.length ≤ 9223372036854775807) (hb1 : BV w v1 b) (hb2 : ZV w .i64 v2 cl) (hcl : cl.length ≤ 9223372036854775807)
    (hz : ∀ x ∈ cl, -9223372036854775808 ≤ x ∧ x ≤ 9223372036854775807) :
    Calls Try.prog 5 #[.agg #[.string (strB n), .int .i64 z, .bool r], v1, v2] w fun e w' => e = .returned (.bool true) ∧ Fr (fun _ => False) w w' := by
  obtain ⟨a1, c1, rfl⟩ := hb1.form
  have hbc : b.length ≤ c1 := hb1.len.2
  have HB1 := Lib.hid hb1
  clear hb1
  rcases Decidable.em ((3000 : Int) < b.length) with g1 | g1
  · obtain ⟨a2, c2, rfl⟩ := hb2.form
    go_enter Try.func5, Try.ntmps5
    go_wp2_with (go_at_call 17; go_loud (refine (alive21 _).mono ?_; rintro e w1 ⟨rfl, hf1⟩; have HF1 := Lib.hid hf1; clear hf1))
    go_returns
    exact ⟨rfl, HF1.out.trans' ((Fr.refl _ w).alloc _)⟩
  obtain ⟨a2, c2, rfl⟩ := hb2.form
  have HB2 := Lib.hid hb2
  have HZ := Lib.hid hz
  clear hb2 hz
  obtain ⟨S, hS⟩ : ∃ S, Sh.new (n.take 64) (fitZ z) r = S := ⟨_, rfl⟩
  have hfine : S.Fine := by rw [← hS]; exact Sh.new_fine (by rw [List.length_take]; omega) (fitZ_le z)
  obtain ⟨ol, un, SR, hR⟩ : ∃ ol un SR, S.feed b = (ol, un, SR) := ⟨_, _, _, rfl⟩
  have hfine2 : SR.Fine := by have := Sh.feed_fine hfine b; rw [hR] at this; exact this
  have E1 := Lib.hid hS
  have E2 := Lib.hid hR
  have F1 := Lib.hid hfine
  have F2 := Lib.hid hfine2
  clear hS hR hfine hfine2
  go_enter Try.func5, Try.ntmps5
  go_upto_region 9 with (first
    | (go_at_call 18; go_loud (refine (fit_any n z r _ h1 h2 hn).mono ?_; rintro e w1 ⟨rfl, hf1⟩; have HF1 := Lib.hid (hf1.trans' ((Fr.refl (fun _ => False) w).alloc (.cells #[.string (strB n), .int .i64 z, .bool r] 23))); clear hf1))
    | (go_at_call 17; go_loud (refine (alive21 _).mono ?_; rintro e w4 ⟨rfl, hf4⟩; have HF4 := Lib.hid (HF3.out.trans hf4 (fun _ _ => id)); have HH4 := Lib.hid (HH3.out.keep hf4 id); have HG4 := Lib.hid (HG3.out.keep hf4 id); have hl4 := Nat.lt_of_lt_of_le hl3 hf4.size; have hw24 := Nat.le_trans hw23 hf4.size; clear hf4))
    | (go_at_call 20; go_loud (refine (feed_any _ S _ b _ HH4.out F1.out (HB1.out.keep HF4.out (fun _ _ => id)) (by omega) (fun g hg => by have := HB1.out.lt g hg; omega)).mono ?_; rintro e w5 ⟨v5, he, hV5, hO5, hS5, hF5⟩; rw [E2.out] at he hV5 hS5; simp only at he hV5 hS5; subst he; obtain ⟨a5, c5, rfl⟩ := hV5.form; have HV5 := Lib.hid hV5; have HO5 := Lib.hid hO5; have HS5 := Lib.hid hS5; have HF5 := Lib.hid hF5; have HG5 := Lib.hid (HG4.out.keep hF5 (by omega)); clear hV5 hO5 hS5 hF5))
    | (go_at_call 19; refine (new_any (n.take 64) (fitZ z) r (w1.alloc (.cells #[.string (strB (n.take 64)), .int .i64 (fitZ z), .bool r] 23))).mono ?_; rintro e w2 ⟨rfl, hs2, hf2⟩; rw [E1.out] at hs2; simp only [World.size_alloc] at hs2; have hw1 := HF1.out.size; have hl2 := lt_of_heap hs2; have HH2 := Lib.hid hs2; have HF2 := Lib.hid (HF1.out.trans (hf2.trans' ((Fr.refl (fun _ => False) w1).alloc (.cells #[.string (strB (n.take 64)), .int .i64 (fitZ z), .bool r] 23))) (fun _ _ => id)); have y2 : ∀ o, w2.cell? ⟨w1.heap.size, o, none⟩ = #[Value.string (strB (n.take 64)), .int .i64 (fitZ z), .bool r][o]? := cells_in (hf2.heap (heap_new w1 _) id); clear hs2 hf2)
    | (go_at_call 19; go_loud (refine (new_any (n.take 64) (fitZ z) r w2).mono ?_; rintro e w3 ⟨rfl, hs3, hf3⟩; rw [E1.out] at hs3; have hl3 := lt_of_heap hs3; have hw23 := hf3.size; have HG3 := Lib.hid hs3; have HH3 := Lib.hid (HH2.out.keep hf3 id); have HF3 := Lib.hid (HF2.out.trans hf3 (fun _ _ => id)); clear hs3 hf3)))
  obtain ⟨G, hG⟩ : ∃ G, w2.heap.size = G := ⟨_, rfl⟩
  rw [hG] at hl3 hl4 hw23 hw24 HG3 HG4 HG5
  rw [hG]
  have hGH : G ≠ w1.heap.size + 1 := by omega
  have hG5 : G < w5.heap.size := Nat.lt_of_lt_of_le hl4 HF5.out.size
  have hF05 : Fr (fun _ => False) w w5 := Fr.of_below0 (((HF4.out.mono (S' := fun k => k = w1.heap.size + 1) (fun _ _ => False.elim)).trans HF5.out (fun _ _ => id)).fresh (fun k hk e => by omega))
  have HF05 := Lib.hid hF05
  have HW : Hid (w.heap.size ≤ G) := Lib.hid (by have h9 := HF1.out.size; have h10 := HF2.out.size; omega)
  have HV : Hid (∀ g, (Value.slice a1 b.length c1).ownBlock = some g → g ≠ G) := Lib.hid (fun g hg => by have h8 := HB1.out.lt g hg; have h9 := HF1.out.size; have h10 := HF2.out.size; omega)
  clear hG hF05 HF1 HF2 HF3 HG3 HG4 HH2 HH3 y2
  go_wp2_with fail
  go_loopw [12, 13, 14, 15] (fun cv a t i wr => ∃ (iN aN tN : Nat) (c : List UInt8) (S' : Sh), i = .int .i64 iN ∧ a = .int .i64 aN ∧ t = .int .i64 tN ∧ BitsRel b cl.length (ol, un, SR) G w5 iN aN tN c S' cv wr) (fun _ _ _ i _ => 41 - (intOf i).toNat)
  case atStart =>
    exact ⟨0, 0, 0, [], S, rfl, rfl, rfl, by omega, Nat.le_refl _, Nat.zero_le _, Own.nil _ _, HG5.out, Fr.refl _ _, F1.out, by rw [List.drop_zero, E2.out]; exact ⟨rfl, rfl, .inl (by simp)⟩, by simp, fun e => by omega⟩
  case round =>
    obtain ⟨iN, aN, tN, c, S', rfl, rfl, rfl, hR⟩ := hrel
    obtain ⟨ac, cc, rfl⟩ := hR.own.1.form
    have hiN := hR.hi
    have htN := hR.htk
    have haN := hR.hat
    have HR := Lib.hid hR
    have HBr := Lib.hid ((HB1.out.keep HF05.out (fun _ _ => id)).keep hR.fr (fun g hg e => HV.out g hg e))
    clear hR
    rcases Decidable.em (iN ≤ min cl.length 39) with hi0 | hi0
    · rcases Decidable.em (iN < cl.length ∧ iN < 39) with hA | hA
      · obtain ⟨x, hx⟩ : ∃ x, cl.getD iN 0 = x := ⟨_, rfl⟩
        have hxb := HZ.out x (by rw [← hx, List.getD_eq_getElem?_getD, List.getElem?_eq_getElem hA.1]; exact List.getElem_mem hA.1)
        obtain ⟨g, o, rfl, hcell⟩ : ∃ g o, a2 = some ⟨g, o, none⟩ ∧ wr.cell? ⟨g, o + iN, none⟩ = some (.int .i64 x) := by
          have hv := (HB2.out.keep HF05.out (fun _ _ => id)).keep HR.out.fr (fun g hg e => by
            have h8 := HB2.out.lt g hg
            have h9 := HW.out
            omega)
          rcases ZV.cases hv with ⟨e, e2⟩ | ⟨g, o, c', e, _, _, h3⟩
          · rw [e2] at hA
            exact absurd hA.1 (by simp)
          · cases e
            exact ⟨g, o, rfl, by rw [h3 iN hA.1, hx]⟩
        obtain ⟨m, hm⟩ : ∃ m : Nat, (if x < 0 then -(x + 1) else x) = (m : Int) := ⟨(if x < 0 then -(x + 1) else x).toNat, by split <;> omega⟩
        have hm63 : (m : Int) ≤ 9223372036854775807 := by rw [← hm]; split <;> omega
        obtain ⟨q, hq⟩ : ∃ q : Nat, m % (b.length + 1) = q := ⟨_, rfl⟩
        have hqle : q ≤ b.length := by have := Nat.mod_lt m (show 0 < b.length + 1 by omega); omega
        have HQm : Hid ((m : Int) % ((b.length : Int) + 1) = (q : Int)) := Lib.hid (by rw [← hq]; push_cast; rfl)
        obtain ⟨hA1, hA2⟩ := hA
        have HX := Lib.hid hx
        clear hx hq
        rcases Decidable.em (x < 0) with hx0 | hx0
        all_goals
          first
            | rw [if_pos hx0] at hm
            | (rw [if_neg hx0] at hm; subst hm)
          have hqe := HQm.out
          rcases Decidable.em (aN < q) with haq | haq
          · go_upto_region 22 with fail
            clear hqe
            rcases Decidable.em (c1 = tN) with hcu | hcu
            all_goals
              first
                | (have HB := Lib.hid (BV.cut_all HBr.out tN q (by omega) (by omega) hcu)
                   have HOB := Lib.hid (own_same HV.out (q - tN) 0)
                   have hcu1 : c1 ≤ tN := Nat.le_of_eq hcu
                   have hcu2 : tN ≤ c1 := Nat.le_of_eq hcu.symm
                   clear hcu)
                | (have HB := Lib.hid (BV.cut_on HBr.out tN q (by omega) (by omega) hcu); have HOB := Lib.hid (own_add (u := tN) HV.out (q - tN) (c1 - tN)))
              obtain ⟨sd, n1, S2, hq⟩ : ∃ sd n1 S2, S'.feed ((b.drop tN).take (q - tN)) = (sd, n1, S2) := ⟨_, _, _, rfl⟩
              have hsl := Sh.feed_len HR.out.fine ((b.drop tN).take (q - tN))
              have hle := S'.feed_le ((b.drop tN).take (q - tN))
              rw [hq] at hsl hle
              rw [List.length_take, List.length_drop] at hle
              simp only at hsl hle
              have hclen := HR.out.len
              have HQ := Lib.hid hq
              have HDL : Hid (((b.drop tN).take (q - tN)).length ≤ 100000) := Lib.hid (by rw [List.length_take]; omega)
              clear hq
              go_wp2_with (first
                | (go_at_call 20; go_loud (refine (feed_any _ S' _ ((b.drop tN).take (q - tN)) wr HR.out.sh HR.out.fine HB.out HDL.out HOB.out).mono ?_; rintro e w6 ⟨v6, he, hV6, hO6, hS6, hF6⟩; rw [HQ.out] at he hV6 hS6; simp only at he hV6 hS6; subst he; obtain ⟨a6, c6, rfl⟩ := hV6.form; have HV6 := Lib.hid hV6; have HO6 := Lib.hid hO6; have HS6 := Lib.hid hS6; have HF6 := Lib.hid hF6; have HC6 := Lib.hid (HR.out.own.keep hF6 (fun g hg e => by subst e; exact absurd hG5 (Nat.not_lt.2 hg))); clear hV6 hO6 hS6 hF6))
                | (at_builtin; go_loud (refine wpList_op rfl fun K hK => op_appO (.tmp 103) (.tmp 104) rfl rfl HC6.out (Nat.le_trans HR.out.fr.size HF6.out.size) rfl HV6.out.rd (by omega) ?_; intro v7 w7 hO7 hF7; have HO7 := Lib.hid hO7; have HF7 := Lib.hid hF7; clear hO7 hF7; simp only [Act.put, List.setIfInBounds_toArray, List.set_cons_zero, List.set_cons_succ]; refine hK _ _ ?_)))
              have X := HR.out.next hi0 q (by omega) (by omega) (by omega) (sd, n1, S2) HQ.out HO7.out (HS6.out.keep HF7.out (fun e => absurd hG5 (Nat.not_lt.2 (HC6.out.2 G e)))) ((HR.out.fr.trans HF6.out (fun _ _ => id)).trans HF7.out (fun j hj e => absurd hj (Nat.not_lt.2 (HC6.out.2 j e))))
              go_roundw
              case rel => first | exact ⟨iN + 1, q, tN + n1, c ++ sd, S2, by go_num, rfl, rfl, X⟩ | ((repeat apply Exists.intro); exact ⟨⟨iN + 1, q, tN + n1, c ++ sd, S2, by go_num, rfl, rfl, X⟩, rfl⟩)
              case measure => simp [intOf]; omega
          · go_upto_region 22 with fail
            clear hqe
            rcases Decidable.em (c1 = tN) with hcu | hcu
            all_goals
              first
                | (have HB := Lib.hid (BV.cut_all HBr.out tN aN (by omega) (by omega) hcu)
                   have HOB := Lib.hid (own_same HV.out (aN - tN) 0)
                   have hcu1 : c1 ≤ tN := Nat.le_of_eq hcu
                   have hcu2 : tN ≤ c1 := Nat.le_of_eq hcu.symm
                   clear hcu)
                | (have HB := Lib.hid (BV.cut_on HBr.out tN aN (by omega) (by omega) hcu); have HOB := Lib.hid (own_add (u := tN) HV.out (aN - tN) (c1 - tN)))
              obtain ⟨sd, n1, S2, hq⟩ : ∃ sd n1 S2, S'.feed ((b.drop tN).take (aN - tN)) = (sd, n1, S2) := ⟨_, _, _, rfl⟩
              have hsl := Sh.feed_len HR.out.fine ((b.drop tN).take (aN - tN))
              have hle := S'.feed_le ((b.drop tN).take (aN - tN))
              rw [hq] at hsl hle
              rw [List.length_take, List.length_drop] at hle
              simp only at hsl hle
              have hclen := HR.out.len
              have HQ := Lib.hid hq
              have HDL : Hid (((b.drop tN).take (aN - tN)).length ≤ 100000) := Lib.hid (by rw [List.length_take]; omega)
              clear hq
              go_wp2_with (first
                | (go_at_call 20; go_loud (refine (feed_any _ S' _ ((b.drop tN).take (aN - tN)) wr HR.out.sh HR.out.fine HB.out HDL.out HOB.out).mono ?_; rintro e w6 ⟨v6, he, hV6, hO6, hS6, hF6⟩; rw [HQ.out] at he hV6 hS6; simp only at he hV6 hS6; subst he; obtain ⟨a6, c6, rfl⟩ := hV6.form; have HV6 := Lib.hid hV6; have HO6 := Lib.hid hO6; have HS6 := Lib.hid hS6; have HF6 := Lib.hid hF6; have HC6 := Lib.hid (HR.out.own.keep hF6 (fun g hg e => by subst e; exact absurd hG5 (Nat.not_lt.2 hg))); clear hV6 hO6 hS6 hF6))
                | (at_builtin; go_loud (refine wpList_op rfl fun K hK => op_appO (.tmp 103) (.tmp 104) rfl rfl HC6.out (Nat.le_trans HR.out.fr.size HF6.out.size) rfl HV6.out.rd (by omega) ?_; intro v7 w7 hO7 hF7; have HO7 := Lib.hid hO7; have HF7 := Lib.hid hF7; clear hO7 hF7; simp only [Act.put, List.setIfInBounds_toArray, List.set_cons_zero, List.set_cons_succ]; refine hK _ _ ?_)))
              have X := HR.out.next hi0 aN (by omega) (by omega) (by omega) (sd, n1, S2) HQ.out HO7.out (HS6.out.keep HF7.out (fun e => absurd hG5 (Nat.not_lt.2 (HC6.out.2 G e)))) ((HR.out.fr.trans HF6.out (fun _ _ => id)).trans HF7.out (fun j hj e => absurd hj (Nat.not_lt.2 (HC6.out.2 j e))))
              go_roundw
              case rel => first | exact ⟨iN + 1, aN, tN + n1, c ++ sd, S2, by go_num, rfl, rfl, X⟩ | ((repeat apply Exists.intro); exact ⟨⟨iN + 1, aN, tN + n1, c ++ sd, S2, by go_num, rfl, rfl, X⟩, rfl⟩)
              case measure => simp [intOf]; omega
      · rcases Decidable.em (iN < cl.length) with hA1 | hA1
        all_goals
          have hA2 : iN < cl.length → ¬ iN < 39 := fun e1 e2 => hA ⟨e1, e2⟩
          clear hA
          go_upto_region 22 with fail
          rcases Decidable.em (c1 = tN) with hcu | hcu
          all_goals
            first
              | (have HB := Lib.hid (BV.cut_all HBr.out tN b.length (by omega) (by omega) hcu)
                 have HOB := Lib.hid (own_same HV.out (b.length - tN) 0)
                 have hcu1 : c1 ≤ tN := Nat.le_of_eq hcu
                 have hcu2 : tN ≤ c1 := Nat.le_of_eq hcu.symm
                 clear hcu)
              | (have HB := Lib.hid (BV.cut_on HBr.out tN b.length (by omega) (by omega) hcu); have HOB := Lib.hid (own_add (u := tN) HV.out (b.length - tN) (c1 - tN)))
            obtain ⟨sd, n1, S2, hq⟩ : ∃ sd n1 S2, S'.feed ((b.drop tN).take (b.length - tN)) = (sd, n1, S2) := ⟨_, _, _, rfl⟩
            have hsl := Sh.feed_len HR.out.fine ((b.drop tN).take (b.length - tN))
            have hle := S'.feed_le ((b.drop tN).take (b.length - tN))
            rw [hq] at hsl hle
            rw [List.length_take, List.length_drop] at hle
            simp only at hsl hle
            have hclen := HR.out.len
            have HQ := Lib.hid hq
            have HDL : Hid (((b.drop tN).take (b.length - tN)).length ≤ 100000) := Lib.hid (by rw [List.length_take]; omega)
            clear hq
            go_wp2_with (first
              | (go_at_call 20; go_loud (refine (feed_any _ S' _ ((b.drop tN).take (b.length - tN)) wr HR.out.sh HR.out.fine HB.out HDL.out HOB.out).mono ?_; rintro e w6 ⟨v6, he, hV6, hO6, hS6, hF6⟩; rw [HQ.out] at he hV6 hS6; simp only at he hV6 hS6; subst he; obtain ⟨a6, c6, rfl⟩ := hV6.form; have HV6 := Lib.hid hV6; have HO6 := Lib.hid hO6; have HS6 := Lib.hid hS6; have HF6 := Lib.hid hF6; have HC6 := Lib.hid (HR.out.own.keep hF6 (fun g hg e => by subst e; exact absurd hG5 (Nat.not_lt.2 hg))); clear hV6 hO6 hS6 hF6))
              | (at_builtin; go_loud (refine wpList_op rfl fun K hK => op_appO (.tmp 103) (.tmp 104) rfl rfl HC6.out (Nat.le_trans HR.out.fr.size HF6.out.size) rfl HV6.out.rd (by omega) ?_; intro v7 w7 hO7 hF7; have HO7 := Lib.hid hO7; have HF7 := Lib.hid hF7; clear hO7 hF7; simp only [Act.put, List.setIfInBounds_toArray, List.set_cons_zero, List.set_cons_succ]; refine hK _ _ ?_)))
            have X := HR.out.next hi0 b.length (by omega) (by omega) (by omega) (sd, n1, S2) HQ.out HO7.out (HS6.out.keep HF7.out (fun e => absurd hG5 (Nat.not_lt.2 (HC6.out.2 G e)))) ((HR.out.fr.trans HF6.out (fun _ _ => id)).trans HF7.out (fun j hj e => absurd hj (Nat.not_lt.2 (HC6.out.2 j e))))
            go_roundw
            case rel => first | exact ⟨iN + 1, b.length, tN + n1, c ++ sd, S2, by go_num, rfl, rfl, X⟩ | ((repeat apply Exists.intro); exact ⟨⟨iN + 1, b.length, tN + n1, c ++ sd, S2, by go_num, rfl, rfl, X⟩, rfl⟩)
            case measure => simp [intOf]; omega
    · have hov := HR.out.over (by omega)
      have hbh := HR.out.behind
      rw [hov] at hbh
      obtain ⟨k1, k2, k3⟩ := hbh
      simp only [List.append_nil, Nat.add_zero] at k1 k2 k3
      subst k1
      subst k2
      have K3 := Lib.hid k3
      have HA := Lib.hid ((show BV w5 (.slice a5 ol.length c5) ol from HV5.out.rd).keep HR.out.fr (fun g hg e => by have := HO5.out g hg; omega))
      have HS5' := Lib.hid (HS5.out.keep HR.out.fr (by omega))
      have HC := Lib.hid HR.out.own.1.rd
      have hsame : (ol == ol) = true := by simp
      have hk : un = tN ∨ (un ≠ tN ∧ SR.phase = 3) := by
        rcases Decidable.em (un = tN) with e | e
        · exact .inl e
        · exact .inr ⟨e, k3.resolve_left e⟩
      clear k3 hov
      rcases hk with hk | ⟨hk, hk2⟩
      all_goals
        first
          | have q1 : ((un : Int) == (tN : Int)) = true := by simp [hk]
          | (have q1 : ((un : Int) == (tN : Int)) = false := by simp; omega
             have q2 : ((SR.phase : Int) == 3) = true := by simp [hk2])
        have HK := Lib.hid hk
        clear hk
        go_wp2_with (first
          | (go_at_call 21; go_loud (refine (same_any _ _ ol ol _ HA.out HC.out).mono ?_; rintro e w' ⟨rfl, rfl⟩; rw [hsame]))
          | (go_at_call 24; refine (phase_any _ SR wr ?_).mono ?_; (first | exact HS5'.out | exact HR.out.sh); rintro e w' ⟨rfl, rfl⟩)
          | (go_at_call 26; refine (structured_any _ SR wr ?_).mono ?_; (first | exact HS5'.out | exact HR.out.sh); rintro e w' ⟨rfl, rfl⟩))
      all_goals
        go_returns
        exact ⟨rfl, Fr.of_below0 (((HF05.out.mono (S' := fun k => k = G) (fun _ _ => False.elim)).trans HR.out.fr (fun _ _ => id)).fresh (fun k hk e => by have := HW.out; omega))⟩

end Go.Proofs.Ytpelpmhopmefoaa
