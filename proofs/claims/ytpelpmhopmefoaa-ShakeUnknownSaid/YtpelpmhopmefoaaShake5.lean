/-
Walks of package shake: what is said to an option.
-/
import Derived.Test.YtpelpmhopmefoaaShake4
namespace Go.Proofs.Ytpelpmhopmefoaa
open Go.RowKit Go.Cof
set_option maxRecDepth 100000
set_option linter.unusedSimpArgs false

/-- A call answers with these replies and leaves the handshake as S. -/
def AnsDone (h : Nat) (S : Sh) (l : List (Nat × List UInt8)) (w : World) (e : Ending) (w' : World) : Prop :=
  ∃ v, e = .returned v ∧ Says l w w' v ∧ ShAt w' h S ∧ Fr (fun k => k = h) w w'

theorem Reps.lit {rs : List (Nat × Value × List UInt8)} {w w' : World} (hn : rs.length ≤ 1000) (hs : w.heap.size ≤ w'.heap.size) (hr : ∀ r ∈ rs, BV w' r.2.1 r.2.2 ∧ ∀ g, r.2.1.ownBlock = some g → w.heap.size ≤ g) :
    Reps rs w (w'.alloc (.cells (rcells rs).toArray 119)) (.slice (some ⟨w'.heap.size, 0, none⟩) rs.length rs.length) := by
  have hlen : (rcells rs).length = rs.length * 2 := by
    clear hn hr
    induction rs with
    | nil => rfl
    | cons r rs ih => rw [show rcells (r :: rs) = [.int .i64 r.1, r.2.1] ++ rcells rs from rfl, List.length_append, ih, List.length_cons]; simp; omega
  refine ⟨Sl.block (heap_new w' _) hlen (by unfold maxLen; omega), fun g hg => by cases hg; exact hs, fun r hm => ?_⟩
  refine ⟨(hr r hm).1.keep ((Fr.refl (fun _ => False) w').alloc _) (fun _ _ => id), fun g hg => ⟨(hr r hm).2 g hg, fun e => ?_⟩⟩
  have h1 := (hr r hm).1.lt g hg
  have h2 : w'.heap.size = g := by simpa [Value.ownBlock] using e
  omega

theorem said_ans {h : Nat} {S : Sh} {w W : World} (k : Nat) {n : Nat} (hf : Fr (fun j => j = h) w W) (hs : ShAt W h S) (hn : n = W.heap.size) :
    AnsDone h S [(k, [])] w (.returned (.slice (some ⟨n, 0, none⟩) 1 1)) (W.alloc (.cells #[.int .i64 k, .slice none 0 0] 119)) := by
  subst hn
  exact ⟨_, rfl, ⟨[(k, .slice none 0 0, [])], rfl, Reps.one hf.size (Rd.nil _ _) (fun g hg => by cases hg)⟩, hs.keep ((Fr.refl (fun _ => False) W).alloc _) id, hf.alloc _⟩

theorem st_set {w : World} {h : Nat} {S : Sh} (hs : ShAt w h S) : ShAt (w.setCell ⟨h, 4, none⟩ (.bool true)) h { S with st := true } := by
  have := heap_set (.bool true) hs (o := 4)
  simpa [ShAt, Sh.cells] using this
theorem byteCells_strB (l : List UInt8) : byteCells (strB l) = bv l := by
  simp [byteCells, bv, strB]

/-- The last reply of what is said to Go. -/
theorem goes_last (S : Sh) (d : List UInt8) : ∃ l k, S.infoL d = l ++ [(k, [])] ∧ (S.goes d = true ↔ k = 1) := by
  have hr : ¬ repInvalid = 1 := by decide
  have hr2 : ¬ repUnknown = 1 := by decide
  unfold Sh.infoL Sh.goes
  by_cases h1 : (takeInf d).2.2 = 0
  · by_cases h2 : (takeInf d).1 = [] ∨ (takeInf d).1 = S.name
    · rw [if_neg (by simp [h1]), if_neg (by rcases h2 with e | e <;> simp [e])]
      by_cases h3 : (takeInf d).2.1.contains 3
      · rw [if_pos h3]
        exact ⟨[_, _], 1, rfl, by rcases h2 with e | e <;> simp [h1, e]⟩
      · rw [if_neg h3]
        exact ⟨[_], 1, rfl, by rcases h2 with e | e <;> simp [h1, e]⟩
    · rw [if_neg (by simp [h1]), if_pos (by simpa using h2)]
      refine ⟨[], repUnknown, rfl, ?_⟩
      have : ¬ (takeInf d).1 = [] ∧ ¬ (takeInf d).1 = S.name := by simpa using h2
      simp [h1, hr2, this]
  · rw [if_pos h1]
    exact ⟨[], repInvalid, rfl, by simp [h1, hr]⟩

theorem Says.base {l : List (Nat × List UInt8)} {w w1 w' : World} {v : Value} (h : Says l w1 w' v) (hs : w.heap.size ≤ w1.heap.size) : Says l w w' v := by
  obtain ⟨rs, h1, h2, h3, h4⟩ := h
  exact ⟨rs, h1, h2, fun g hg => Nat.le_trans hs (h3 g hg), fun r hr => ⟨(h4 r hr).1, fun g hg => ⟨Nat.le_trans hs ((h4 r hr).2 g hg).1, ((h4 r hr).2 g hg).2⟩⟩⟩
theorem Says.keep {l : List (Nat × List UInt8)} {w w1 w2 : World} {v : Value} {K : Nat → Prop} (h : Says l w w1 v) (hf : Fr K w1 w2) (hK : ∀ g, w.heap.size ≤ g → ¬ K g) : Says l w w2 v := by
  obtain ⟨rs, h1, h2⟩ := h
  exact ⟨rs, h1, h2.keep hf hK⟩
theorem Says.last {l : List (Nat × List UInt8)} {k : Nat} {w w' : World} {v : Value} (h : Says (l ++ [(k, [])]) w w' v) :
    ∃ g o c, v = .slice (some ⟨g, o, none⟩) (l.length + 1) c ∧ w'.cell? ⟨g, o + l.length * 2, none⟩ = some (.int .i64 k) ∧ w.heap.size ≤ g := by
  obtain ⟨rs, h1, h2, h3, h4⟩ := h
  have hn : rs.length = l.length + 1 := by
    have := congrArg List.length h1
    simpa using this
  obtain ⟨a, c, rfl, _, p1, p2, p3⟩ := h2.rd
  cases a with
  | none => have := (p2 rfl).1; omega
  | some b =>
    obtain ⟨g, o, s⟩ := b
    obtain ⟨q1, q2, q3⟩ := p3 _ rfl
    simp only at q1
    subst q1
    refine ⟨g, o, c, by rw [hn], q3 _ _ ?_, h3 g rfl⟩
    have key : ∀ (rs : List (Nat × Value × List UInt8)) (l : List (Nat × List UInt8)), rs.map (fun r => (r.1, r.2.2)) = l ++ [(k, [])] → (rcells rs)[l.length * 2]? = some (.int .i64 k) := by
      intro rs
      induction rs with
      | nil => intro l h; have := congrArg List.length h; simp at this
      | cons r rs ih =>
        intro l h
        cases l with
        | nil =>
          simp only [List.nil_append, List.map_cons, List.cons.injEq] at h
          have : r.1 = k := congrArg Prod.fst h.1
          simp [rcells, this]
        | cons x l =>
          simp only [List.cons_append, List.map_cons, List.cons.injEq] at h
          have := ih l h.2
          rw [show rcells (r :: rs) = [.int .i64 r.1, r.2.1] ++ rcells rs from rfl, List.getElem?_append_right (by simp; omega), ← this]
          congr 1
          simp
          omega
    exact key rs l h1

set_option maxHeartbeats 2000000 in
theorem answer_any (h : Nat) (S : Sh) (k : Nat) (v : Value) (d : List UInt8) (w : World) (hs : ShAt w h S) (hz : (S.sectors : Int) ≤ 1000000) (hnm : S.name.length ≤ 1000000) (hd : BV w v d) (hl : d.length ≤ 100000) :
    Calls Try.prog 73 #[.pointer (some ⟨h, 0, none⟩), .agg #[.int .i64 k, v]] w (AnsDone h (S.answerL k d).2 (S.answerL k d).1 w) := by
  obtain ⟨a, c, rfl⟩ := hd.form
  have HS := Lib.hid hs
  have HD := Lib.hid hd
  clear hs hd
  go_enter Try.func73, Try.ntmps73
  go_upto_region 2 with fail
  have HL := lt_of_heap HS.out
  have hf1 : Fr (fun _ => False) w ((w.alloc (.cells #[.int .i64 k, .slice a d.length c] 51)).alloc (.cells #[.int .i64 1, .slice none 0 0] 119)) := ((Fr.refl _ w).alloc _).alloc _
  have q0 : ((w.alloc (.cells #[.int .i64 k, .slice a d.length c] 51)).alloc (.cells #[.int .i64 1, .slice none 0 0] 119)).cell? ⟨w.heap.size, 0, none⟩ = some (.int .i64 k) := cell_of (heap_old _ _ (heap_new w _))
  have q1 : ((w.alloc (.cells #[.int .i64 k, .slice a d.length c] 51)).alloc (.cells #[.int .i64 1, .slice none 0 0] 119)).cell? ⟨w.heap.size, 1, none⟩ = some (.slice a d.length c) := cell_of (heap_old _ _ (heap_new w _))
  have q2 : ((w.alloc (.cells #[.int .i64 k, .slice a d.length c] 51)).alloc (.cells #[.int .i64 1, .slice none 0 0] 119)).cell? ⟨w.heap.size + 1, 0, none⟩ = some (.int .i64 1) := by
    simp
  have q3 : ((w.alloc (.cells #[.int .i64 k, .slice a d.length c] 51)).alloc (.cells #[.int .i64 1, .slice none 0 0] 119)).cell? ⟨w.heap.size + 1, 1, none⟩ = some (.slice none 0 0) := by
    simp
  have b1 : w.heap.size + 1 < ((w.alloc (.cells #[.int .i64 k, .slice a d.length c] 51)).alloc (.cells #[.int .i64 1, .slice none 0 0] 119)).heap.size := by simp
  generalize ((w.alloc (.cells #[.int .i64 k, .slice a d.length c] 51)).alloc (.cells #[.int .i64 1, .slice none 0 0] 119)) = w1 at *
  have hs1 := HS.out.keep hf1 id
  have HS1 := Lib.hid hs1
  have HD1 := Lib.hid (HD.out.keep hf1 (fun _ _ => id))
  have c3 := hs1.c3
  have z3 := hs1.z 3
  have HF1 := Lib.hid hf1
  have HFh : Hid (Fr (fun j => j = h) w w1) := Lib.hid (hf1.mono (fun _ _ => False.elim))
  clear hs1 hf1
  by_cases k2 : k = 2
  · have E : Hid (S.answerL k d = ([(1, [])], { S with phase := 3 })) := Lib.hid (by rw [Sh.answerL, if_pos k2])
    have k2' : (k : Int) = 2 := by omega
    go_wp2_with fail
    go_returns
    rw [E.out]
    exact said_ans 1 (HFh.out.setB rfl 3 _) (phase_set 3 HS1.out rfl) (by simp)
  have k2' : ¬ (k : Int) = 2 := by omega
  by_cases k6 : k = 6
  · have E : Hid (S.answerL k d = (S.infoL d, S)) := Lib.hid (by rw [Sh.answerL, if_neg k2, if_pos k6])
    have k6' : (k : Int) = 6 := by omega
    go_wp2_with (go_at_call 90; go_loud (refine (info_any h S _ d w1 HS1.out hz HD1.out hl).mono ?_; rintro e w2 ⟨v2, rfl, hS2, hF2⟩; have HS2 := Lib.hid hS2; have HF2 := Lib.hid hF2; clear hS2 hF2))
    go_returns
    rw [E.out]
    exact ⟨_, rfl, HS2.out.base HF1.out.size, HS1.out.keep HF2.out id, HFh.out.trans HF2.out (fun _ _ => False.elim)⟩
  have k6' : ¬ (k : Int) = 6 := by omega
  by_cases k7 : k = 7
  · have E : Hid (S.answerL k d = (S.infoL d, if S.goes d then { S with phase := 2 } else S)) := Lib.hid (by rw [Sh.answerL, if_neg k2, if_neg k6, if_pos k7])
    have k7' : (k : Int) = 7 := by omega
    obtain ⟨l, K, hl1, hl2⟩ := goes_last S d
    have HL1 := Lib.hid hl1
    have HL2 := Lib.hid hl2
    obtain ⟨n, hn⟩ : ∃ n, l.length = n := ⟨_, rfl⟩
    have HN := Lib.hid hn
    have hn10 : n ≤ 10 := by
      have h1 := congrArg List.length hl1
      have h2 : (S.infoL d).length ≤ 3 := by
        unfold Sh.infoL
        repeat' split
        all_goals simp
      rw [h1, List.length_append, hn] at h2
      omega
    clear hl1 hl2 hn
    go_upto_region 11 with (go_at_call 90; go_loud (refine (info_any h S _ d w1 HS1.out hz HD1.out hl).mono ?_; rintro e w2 ⟨v2, rfl, hS2, hF2⟩; have HF2 := Lib.hid hF2; rw [HL1.out] at hS2; obtain ⟨g, o, c2, rfl, hc, hg⟩ := hS2.last; rw [HN.out] at hc hS2; rw [HN.out]; have HS2 := Lib.hid hS2; have HG := Lib.hid hg; have c3' := hF2.cell c3 id; have HS3 := Lib.hid (HS1.out.keep hF2 id); have z3' := HS3.out.z 3; clear hS2 hF2 hg))
    by_cases hK : K = 1
    · have hK' : (K : Int) = 1 := by omega
      go_wp2_with fail
      go_returns
      rw [E.out, if_pos (HL2.out.2 hK), HL1.out]
      exact ⟨_, rfl, (HS2.out.base HF1.out.size).keep (Fr.set1 w2 h 3 _) (fun g hg e => by subst e; exact absurd HL (Nat.not_lt.2 hg)), phase_set 2 HS3.out rfl, (HFh.out.trans HF2.out (fun _ _ => False.elim)).setB rfl 3 _⟩
    · have hK' : ¬ (K : Int) = 1 := by omega
      go_wp2_with fail
      go_returns
      rw [E.out, if_neg (fun e => hK (HL2.out.1 e)), HL1.out]
      exact ⟨_, rfl, HS2.out.base HF1.out.size, HS3.out, HFh.out.trans HF2.out (fun _ _ => False.elim)⟩
  have k7' : ¬ (k : Int) = 7 := by omega
  by_cases k3 : k = 3
  · have k3' : (k : Int) = 3 := by omega
    by_cases hd0 : d = []
    · have hdl : ¬ (0 : Int) < d.length := by rw [hd0]; decide
      obtain ⟨i0, hi, hz0, hz1, hz2⟩ := info_parts Try.info5
      obtain ⟨L, hL⟩ : ∃ L, numB [(S.name.length, 4)] = L := ⟨_, rfl⟩
      obtain ⟨m, hm⟩ : ∃ m, S.name.length = m := ⟨_, rfl⟩
      have E : Hid (S.answerL k d = ([(2, L ++ S.name), (1, [])], S)) := Lib.hid (by rw [Sh.answerL, if_neg k2, if_neg k6, if_neg k7, if_pos k3, if_neg (by simpa using hd0), hL])
      have N1 : Hid (∀ f ∈ [(S.name.length, 4)], f.1 < 256 ^ f.2 ∧ 1 ≤ f.2 ∧ f.2 ≤ 8 ∧ (f.1 : Int) ≤ 9223372036854775807) := Lib.hid (by
        intro f hf
        obtain rfl := List.mem_singleton.1 hf
        exact ⟨by simp only; omega, by simp, by simp, by simp only; omega⟩)
      have HLL := Lib.hid hL
      have hLl : L.length ≤ 8 := by rw [← hL]; simp [numB, putB_length]
      clear hd0 hL
      have c0 := HS1.out.c0
      rw [hm] at N1 HLL
      have ts : (strB S.name).size = m := hm
      have hm2 : m ≤ 1000000 := by rw [← hm]; exact hnm
      have HM := Lib.hid hm
      clear hm
      go_upto_region 21 with fail
      have b2 : h < w1.heap.size := by omega
      refine wp_drawn (by kernel_rfl) ?_
      -- 0: move
      refine wpY_pure0 0 rfl rfl (by kernel_rfl) (by kernel_rfl) (fun K hK => ?_); go_wp2_with fail
      -- 1: nilCheck
      refine wpY_pure0 1 rfl rfl (by kernel_rfl) (by kernel_rfl) (fun K hK => ?_); go_wp2_with fail
      -- 2: fieldAddr
      refine wpY_pure0 2 rfl rfl (by kernel_rfl) (by kernel_rfl) (fun K hK => ?_); go_wp2_with fail
      -- 8: move
      refine wpY_pure0 8 rfl rfl (by kernel_rfl) (by kernel_rfl) (fun K hK => ?_); go_wp2_with fail
      -- 9: nilCheck
      refine wpY_pure0 9 rfl rfl (by kernel_rfl) (by kernel_rfl) (fun K hK => ?_); go_wp2_with fail
      -- 10: fieldAddr
      refine wpY_pure0 10 rfl rfl (by kernel_rfl) (by kernel_rfl) (fun K hK => ?_); go_wp2_with fail
      -- 3: load
      refine wpY_read0 3 rfl rfl (by kernel_rfl) rfl (fun K hK => ?_); go_wp2_with fail
      -- 4: call
      refine wpY_read0 4 rfl rfl (by kernel_rfl) rfl (fun K hK => ?_); go_wp2_with fail
      -- 5: build
      refine wpY_pure0 5 rfl rfl (by kernel_rfl) (by kernel_rfl) (fun K hK => ?_); go_wp2_with fail
      -- 11: load
      refine wpY_read0 11 rfl rfl (by kernel_rfl) rfl (fun K hK => ?_); go_wp2_with fail
      -- 14: load
      refine wpY_read0 14 rfl rfl (by kernel_rfl) rfl (fun K hK => ?_); go_wp2_with fail
      -- 6: buildSlice
      refine wpY_one0 6 [14, 11] rfl rfl (by kernel_rfl) (by kernel_rfl) (fun K hK => ?_)
      go_wp2_with fail
      refine ⟨⟨?_, ?_, trivial⟩, ?_⟩
      · refine again_run0 rfl rfl rfl (fun K hK => ?_); go_wp2_with fail; exact trivial
      · refine again_run0 rfl rfl rfl (fun K hK => ?_); go_wp2_with fail; exact trivial
      -- 7: call
      refine wpY_one0 7 [14, 11] rfl rfl (by kernel_rfl) (by kernel_rfl) (fun K hK => ?_)
      go_wp2_with (go_at_call 91; go_loud (refine (numbers_any _ [(m, 4)] _ (Rd.block (heap_new w1.drew _) rfl) (by simp) (by simp) N1.out).mono ?_; rintro e w2 ⟨v2, rfl, hF2⟩; rw [HLL.out] at hF2; have hX2 := hF2.2.2.trans' (((Fr.refl (fun _ => False) w1).drew).alloc _); have c0' := hX2.cell c0 id; have q2' := hX2.cell q2 id; have q3' := hX2.cell q3 id; have b1' := Nat.lt_of_lt_of_le b1 hX2.size; have HF2 := Lib.hid hF2; have HX2 := Lib.hid hX2; clear hF2 hX2))
      refine ⟨⟨?_, ?_, trivial⟩, ?_⟩
      · refine again_run0 rfl rfl rfl (fun K hK => ?_); go_wp2_with fail; exact trivial
      · refine again_run0 rfl rfl rfl (fun K hK => ?_); go_wp2_with fail; exact trivial
      -- 12: call
      refine wpY_one0 12 [14] rfl rfl (by kernel_rfl) (by kernel_rfl) (fun K hK => ?_)
      refine op_append (.tmp 67) (.tmp 71) 24 9 rfl 5 i0 (.int .u8 0) 1 1 Try.underlying24 hi hz0 hz1 hz2 rfl (by decide) v2 L.length (bv L) rfl HF2.out.1 (.string (strB S.name)) S.name.length (bv S.name) rfl (by have := Src.ofString (P := Try.prog) w2 Try.underlying9 (strB S.name); rw [byteCells_strB] at this; exact this) (by rw [HM.out]; unfold maxLen; omega) (by rw [HM.out]; omega) ?_; intro v3 w3 hap; have HF3 := Lib.hid (HF2.out.append hap); rw [HM.out] at hap; have hX3 := hap.fr; obtain ⟨a3, cc3, rfl⟩ := hap.sl.form; have hne3 : ¬ v2.ownBlock = some (w.heap.size + 1) := (fun e => by have h9 := HF2.out.2.1 _ e; simp at h9; omega); have q2'' := hX3.cell q2' hne3; have q3'' := hX3.cell q3' hne3; have b1'' := Nat.lt_of_lt_of_le b1' hX3.size; clear hne3 hap hX3; simp only [Act.put, List.setIfInBounds_toArray, List.set_cons_zero, List.set_cons_succ]; refine hK _ _ ?_
      refine ⟨⟨?_, trivial⟩, ?_⟩
      · refine again_run0 rfl rfl rfl (fun K hK => ?_); go_wp2_with fail; exact trivial
      -- 13: build
      refine wpY_pure0 13 rfl rfl (by kernel_rfl) (by kernel_rfl) (fun K hK => ?_); go_wp2_with fail
      -- 15: buildSlice
      refine wpY_one0 15 [] rfl rfl (by kernel_rfl) (by kernel_rfl) (fun K hK => ?_)
      go_wp2_with fail
      refine ⟨trivial, ?_⟩
      -- 16: assign
      refine wpY_pure0 16 rfl rfl (by kernel_rfl) (by kernel_rfl) (fun K hK => ?_); go_wp2_with fail
      refine wpY_done (by kernel_rfl) ?_ _
      go_wp2_with fail
      go_returns
      rw [E.out]
      have F3 : Fr (fun _ => False) w w3 := HF1.out.trans (HF3.out.2.2.trans' (((Fr.refl (fun _ => False) w1).drew).alloc _)) (fun _ _ => id)
      refine ⟨_, rfl, ⟨_, ?_, Reps.lit (rs := [(2, .slice a3 (L.length + m) cc3, L ++ S.name), (1, .slice none 0 0, [])]) (by simp) F3.size ?_⟩, HS1.out.keep ((HF3.out.2.2.trans' (((Fr.refl (fun _ => False) w1).drew).alloc _)).alloc _) id, HFh.out.trans ((HF3.out.2.2.trans' (((Fr.refl (fun _ => False) w1).drew).alloc _)).alloc _) (fun _ _ => False.elim)⟩
      · rfl
      · intro r hr
        simp only [List.mem_cons, List.not_mem_nil, or_false] at hr
        rcases hr with rfl | rfl
        · refine ⟨HF3.out.1.rd, fun g hg => ?_⟩
          have h1 := HF3.out.2.1 g hg
          have h2 := HF1.out.size
          simp at h1
          omega
        · exact ⟨Rd.nil _ _, fun g hg => by cases hg⟩
    · have hdl : (0 : Int) < d.length := by
        have := List.length_pos_iff.2 hd0
        omega
      have E : Hid (S.answerL k d = ([(repInvalid, [])], S)) := Lib.hid (by rw [Sh.answerL, if_neg k2, if_neg k6, if_neg k7, if_pos k3, if_pos hd0])
      go_wp2_with fail
      go_returns
      rw [E.out]
      exact said_ans repInvalid HFh.out HS1.out (by simp)
  have k3' : ¬ (k : Int) = 3 := by omega
  by_cases k8 : k = 8
  · have k8' : (k : Int) = 8 := by omega
    by_cases hd0 : d = []
    · have hdl : ¬ (0 : Int) < d.length := by rw [hd0]; decide
      have E : Hid (S.answerL k d = ([(1, [])], { S with st := true })) := Lib.hid (by rw [Sh.answerL, if_neg k2, if_neg k6, if_neg k7, if_neg k3, if_pos k8, if_neg (by simpa using hd0)])
      clear hd0
      have c4 := HS1.out.c4
      have z4 := HS1.out.z 4
      go_wp2_with fail
      go_returns
      have e := E.out
      simp only [k8] at e
      rw [e]
      exact said_ans 1 (HFh.out.setB rfl 4 _) (st_set HS1.out) (by simp)
    · have hdl : (0 : Int) < d.length := by
        have := List.length_pos_iff.2 hd0
        omega
      have E : Hid (S.answerL k d = ([(repInvalid, [])], S)) := Lib.hid (by rw [Sh.answerL, if_neg k2, if_neg k6, if_neg k7, if_neg k3, if_pos k8, if_pos hd0])
      go_wp2_with fail
      go_returns
      rw [E.out]
      exact said_ans repInvalid HFh.out HS1.out (by simp)
  have k8' : ¬ (k : Int) = 8 := by omega
  have E : Hid (S.answerL k d = ([(repUnsup, [])], S)) := Lib.hid (by rw [Sh.answerL, if_neg k2, if_neg k6, if_neg k7, if_neg k3, if_neg k8])
  go_wp2_with fail
  go_returns
  rw [E.out]
  exact said_ans repUnsup HFh.out HS1.out (by simp)

end Go.Proofs.Ytpelpmhopmefoaa
