/-
Walks of package wire: messages.
-/
import Derived.Test.YtpelpmhopmefoaaWire1
namespace Go.Proofs.Ytpelpmhopmefoaa
open Go.RowKit Go.Cof
set_option maxRecDepth 100000
set_option linter.unusedSimpArgs false

theorem Try.info124 : (Try.prog.info? 124).map (fun i => (i.zero, i.size, i.bytes)) = some (some (.agg #[.int .u64 0, .int .i64 0]), 2, 16) := by kernel_rfl

/-- '[]byte(s)'. -/
theorem str_bytes {P : Program} (w : World) (l : List UInt8) {src dst : TypeId} (hs : P.underlying src = some .string) (hd : P.underlying dst = some (.slice 5)) (he : P.underlying 5 = some (.int .u8)) (hl : l.length ≤ maxLen) :
    ∃ c w', (convert src dst (.string (strB l))).run P w = .ok (.slice (some ⟨w.heap.size, 0, none⟩) l.length c) w' ∧ FreshBytes w w' l (.slice (some ⟨w.heap.size, 0, none⟩) l.length c) := by
  have hr := run_bytes_of_string (P := P) w src dst 5 (strB l) hs hd he
  have hge := grownCap_ge w l.length 0 5
  have hle := grownCap_le_maxLen w l.length 0 5 hl
  refine ⟨_, _, hr, ⟨⟨by simp [bv], .inr ⟨w.heap.size, 0, _, _, _, rfl, heap_alloc_new w.drew _, hge, hle, ?_, ?_, ?_⟩⟩, fun g hg => by cases hg; exact Nat.le_refl _, (Fr.drew (Fr.refl _ w)).alloc _⟩⟩
  · have hge' : (strB l).size ≤ grownCap w (strB l).size 0 5 := hge
    simp only [bytesRow, Array.size_append, Array.size_map, Array.size_replicate]
    have : (strB l).data.size = (strB l).size := rfl
    have : (strB l).size = l.length := rfl
    omega
  · intro j hj
    have h1 : j < (strB l).data.size := by simpa [strB] using hj
    rw [Nat.zero_add, bytesRow, Array.getElem?_append_left (by simpa using h1)]
    simp [strB, bv]
  · intro j hj
    have hge' : (strB l).size ≤ grownCap w (strB l).size 0 5 := hge
    have e : (bytesRow (strB l) (grownCap w (strB l).size 0 5)).size = grownCap w (strB l).size 0 5 := by
      simp only [bytesRow, Array.size_append, Array.size_map, Array.size_replicate]
      have : (strB l).data.size = (strB l).size := rfl
      omega
    rw [e]
    have : grownCap w (strB l).size 0 5 = grownCap w l.length 0 5 := rfl
    simp
    omega

/-- The fields of a message: numbers in so many bytes. -/
def fieldCells (fs : List (Nat × Nat)) : List Value := fs.flatMap fun f => [.int .u64 f.1, .int .i64 f.2]
def fieldB (fs : List (Nat × Nat)) : List UInt8 := fs.flatMap fun f => putB (f.1 % 256 ^ f.2) f.2

theorem FreshBytes.append {w w1 w2 : World} {l d : List UInt8} {v v' : Value} (h : FreshBytes w w1 l v) (hap : Appended w1 w2 5 1 v v' (l.length + d.length) (bv l ++ bv d)) : FreshBytes w w2 (l ++ d) v' := by
  obtain ⟨h1, h2, h3⟩ := h
  have s := h3.size
  refine ⟨by rw [List.length_append, bv_append]; exact hap.sl, fun g hg => ?_, Fr.of_below0 (((h3.mono (S' := fun k => w.heap.size ≤ k) (fun _ _ => False.elim)).trans hap.fr (fun j _ e => h2 j e)).fresh (fun k hk e => by omega))⟩
  rcases hap.own g hg with e | e
  · exact h2 g e
  · omega
theorem FreshBytes.keep {w w1 w2 : World} {l : List UInt8} {v : Value} (h : FreshBytes w w1 l v) (hf : Fr (fun _ => False) w1 w2) : FreshBytes w w2 l v :=
  ⟨h.1.keep hf (fun _ _ => id), h.2.1, h.2.2.trans hf (fun _ _ => id)⟩
theorem fieldB_len {fs : List (Nat × Nat)} (k : Nat) (h : ∀ f ∈ fs, f.2 ≤ 8) (hl : fs.length ≤ 8) : (fieldB (fs.take k)).length ≤ 64 := by
  have key : ∀ gs : List (Nat × Nat), (∀ f ∈ gs, f.2 ≤ 8) → (fieldB gs).length ≤ gs.length * 8 := by
    intro gs
    induction gs with
    | nil => intro _; simp [fieldB]
    | cons f r ih =>
      intro hg
      have h1 := hg f (by simp)
      have h2 := ih (fun x hx => hg x (by simp [hx]))
      have e : fieldB (f :: r) = putB (f.1 % 256 ^ f.2) f.2 ++ fieldB r := by simp [fieldB]
      rw [e, List.length_append, putB_length, List.length_cons]
      omega
  have := key (fs.take k) (fun f hf => h f (List.mem_of_mem_take hf))
  rw [List.length_take] at this
  omega
theorem field_mem {fs : List (Nat × Nat)} {k n s : Nat} (h : k < fs.length) (hx : fs.getD k (0, 0) = (n, s)) : (n, s) ∈ fs := by
  rw [← hx, List.getD_eq_getElem?_getD, List.getElem?_eq_getElem h]
  exact List.getElem_mem h

theorem mask {n s : Nat} (hn : n < 256 ^ 8) (h1 : 1 ≤ s) (h8 : s ≤ 8) : bits .and .u64 (n : Int) (IntKind.u64.wrap (IntKind.u64.wrap (2 ^ (8 * s)) - 1)) = ((n % 256 ^ s : Nat) : Int) := by
  have e : IntKind.u64.wrap (IntKind.u64.wrap (2 ^ (8 * s)) - 1) = ((2 ^ (8 * s) - 1 : Nat) : Int) := by
    rw [IntKind.wrap_u64, IntKind.wrap_u64]
    have : s = 1 ∨ s = 2 ∨ s = 3 ∨ s = 4 ∨ s = 5 ∨ s = 6 ∨ s = 7 ∨ s = 8 := by omega
    rcases this with rfl | rfl | rfl | rfl | rfl | rfl | rfl | rfl <;> decide
  have hp : 2 ^ (8 * s) ≤ 2 ^ 64 := Nat.pow_le_pow_right (by decide) (by omega)
  have hpos : 0 < 2 ^ (8 * s) := Nat.pow_pos (by decide)
  rw [e, u64_and_nat _ _ (by omega) (by omega), Nat.and_two_pow_sub_one_eq_mod, show (256 : Nat) ^ s = 2 ^ (8 * s) by rw [Nat.pow_mul]]

theorem message_step {w w2 w3 : World} {head L : List UInt8} {fs : List (Nat × Nat)} {k n s : Nat} {v v' : Value} (hL : head ++ fieldB (fs.take k) = L) (hk : k < fs.length) (hx : fs.getD k (0, 0) = (n, s))
    (h : FreshBytes w w2 L v) (hap : Appended w2 w3 5 1 v v' (L.length + s) (bv L ++ bv (putB (n % 256 ^ s) s))) : FreshBytes w w3 (head ++ fieldB (fs.take (k + 1))) v' := by
  have e : fs.take (k + 1) = fs.take k ++ [(n, s)] := by
    rw [List.take_add_one, List.getElem?_eq_getElem hk]
    rw [List.getD_eq_getElem?_getD, List.getElem?_eq_getElem hk] at hx
    simp only [Option.getD_some] at hx
    rw [hx]
    rfl
  have e2 : fieldB (fs.take k ++ [(n, s)]) = fieldB (fs.take k) ++ putB (n % 256 ^ s) s := by simp [fieldB]
  rw [e, e2, ← List.append_assoc, hL]
  refine h.append ?_
  rw [putB_length]
  exact hap

theorem field_get0 {fs : List (Nat × Nat)} {k n s : Nat} (h : k < fs.length) (hx : fs.getD k (0, 0) = (n, s)) : (fieldCells fs)[k * 2]? = some (.int .u64 n) := by
  induction fs generalizing k with
  | nil => simp at h
  | cons f r ih =>
    cases k with
    | zero => simp at hx; subst hx; rfl
    | succ k =>
      have := ih (k := k) (by simpa using h) (by simpa using hx)
      rw [show (k + 1) * 2 = k * 2 + 2 by omega]
      simpa [fieldCells] using this
theorem field_get1 {fs : List (Nat × Nat)} {k n s : Nat} (h : k < fs.length) (hx : fs.getD k (0, 0) = (n, s)) : (fieldCells fs)[k * 2 + 1]? = some (.int .i64 s) := by
  induction fs generalizing k with
  | nil => simp at h
  | cons f r ih =>
    cases k with
    | zero => simp at hx; subst hx; rfl
    | succ k =>
      have := ih (k := k) (by simpa using h) (by simpa using hx)
      rw [show (k + 1) * 2 + 1 = k * 2 + 1 + 2 by omega]
      simpa [fieldCells] using this

set_option maxHeartbeats 1000000 in
theorem message_any (head : List UInt8) (data fv : Value) (d : List UInt8) (fs : List (Nat × Nat)) (w : World) (hh : head.length ≤ 1000000) (hd : BV w data d) (hdl : d.length ≤ 100000000000) (hf : Rd w 2 fv fs.length (fieldCells fs)) (hf0 : 0 < fs.length) (hfl : fs.length ≤ 8)
    (hok : ∀ f ∈ fs, f.1 < 256 ^ 8 ∧ 1 ≤ f.2 ∧ f.2 ≤ 8) : Calls Try.prog 79 #[.string (strB head), data, fv] w fun e w' => ∃ v, e = .returned v ∧ FreshBytes w w' (head ++ fieldB fs ++ d) v := by
  obtain ⟨i0, hi, hz0, hz1, hz2⟩ := info_parts Try.info5
  obtain ⟨c0, w1, hr, hF⟩ := str_bytes (P := Try.prog) (src := 9) (dst := 24) w head Try.underlying9 Try.underlying24 Try.underlying5 (by unfold maxLen; omega)
  obtain ⟨a, cf, rfl, hf1, hf2, hf3, hf4⟩ := id hf
  obtain ⟨b, rfl⟩ : ∃ b, a = some b := by
    cases a with
    | none => have := (hf3 rfl).1; omega
    | some b => exact ⟨b, rfl⟩
  obtain ⟨p1, p2, p3⟩ := hf4 b rfl
  obtain ⟨g, o, s⟩ := b
  simp only at p1 p2 p3
  subst p1
  have P3 := Lib.hid p3
  have HD := Lib.hid hd
  have HFd := Lib.hid hf
  have HO := Lib.hid hok
  have HF := Lib.hid hF
  clear hd hf hf1 hf2 hf3 hf4 p3 hok hF
  go_enter Try.func79, Try.ntmps79
  go_wp2_with fail
  go_loopw [7, 16] (fun v i wr => ∃ k : Nat, k ≤ fs.length ∧ i = .int .i64 k ∧ FreshBytes w wr (head ++ fieldB (fs.take k)) v) (fun _ i _ => fs.length - (intOf i).toNat)
  case atStart => exact ⟨0, Nat.zero_le _, rfl, by simpa [fieldB] using HF.out⟩
  case round =>
    obtain ⟨k, hk, rfl, hFk⟩ := hrel
    obtain ⟨nk, sk, hx⟩ : ∃ n s, fs.getD k (0, 0) = (n, s) := ⟨_, _, rfl⟩
    have hc0 : k < fs.length → wr.cell? ⟨g, o + k * 2, none⟩ = some (.int .u64 nk) := fun h => hFk.2.2.cell (P3.out (k * 2) _ (field_get0 h hx)) id
    have hc1 : k < fs.length → wr.cell? ⟨g, o + k * 2 + 1, none⟩ = some (.int .i64 sk) := fun h => hFk.2.2.cell (P3.out (k * 2 + 1) _ (field_get1 h hx)) id
    have hgr := Nat.lt_of_lt_of_le p2 hFk.2.2.size
    have hln := fieldB_len (fs := fs) k (fun f hf => (HO.out f hf).2.2) hfl
    have hLen : (head ++ fieldB (fs.take k)).length ≤ 1000064 := by rw [List.length_append]; omega
    obtain ⟨L, hL⟩ : ∃ L, head ++ fieldB (fs.take k) = L := ⟨_, rfl⟩
    rw [hL] at hFk hLen
    have HL := Lib.hid hL
    obtain ⟨av, cv, rfl⟩ := hFk.1.form
    clear hln hL
    have HX := Lib.hid hx
    have HK := Lib.hid hFk
    clear hx hFk
    by_cases hlt : k < fs.length
    · replace hc0 := hc0 hlt
      replace hc1 := hc1 hlt
      obtain ⟨hn8, hs1, hs8⟩ := HO.out (nk, sk) (field_mem hlt HX.out)
      simp only at hn8 hs1 hs8
      have HN := Lib.hid hn8
      clear hn8
      go_upto_region 5 with fail
      refine wp_drawn (by kernel_rfl) ?_
      -- 0: fieldAddr
      refine wpY_pure0 0 rfl rfl (by kernel_rfl) (by kernel_rfl) (fun K hK => ?_); go_wp2_with fail
      -- 2: fieldAddr
      refine wpY_pure0 2 rfl rfl (by kernel_rfl) (by kernel_rfl) (fun K hK => ?_); go_wp2_with fail
      -- 8: fieldAddr
      refine wpY_pure0 8 rfl rfl (by kernel_rfl) (by kernel_rfl) (fun K hK => ?_); go_wp2_with fail
      -- 1: load
      refine wpY_read0 1 rfl rfl (by kernel_rfl) rfl (fun K hK => ?_); go_wp2_with fail
      -- 3: load
      refine wpY_read0 3 rfl rfl (by kernel_rfl) rfl (fun K hK => ?_); go_wp2_with fail
      -- 4: binOp
      refine wpY_pure0 4 rfl rfl (by kernel_rfl) (by kernel_rfl) (fun K hK => ?_); go_wp2_with fail
      -- 5: binOp
      refine wpY_pure0 5 rfl rfl (by kernel_rfl) (by kernel_rfl) (fun K hK => ?_); go_wp2_with fail
      -- 6: binOp
      refine wpY_pure0 6 rfl rfl (by kernel_rfl) (by kernel_rfl) (fun K hK => ?_); go_wp2_with fail
      -- 7: binOp
      refine wpY_pure0 7 rfl rfl (by kernel_rfl) (by kernel_rfl) (fun K hK => ?_); go_wp2_with fail
      -- 9: load
      refine wpY_read0 9 rfl rfl (by kernel_rfl) rfl (fun K hK => ?_); go_wp2_with fail
      -- 10: call
      refine wpY_one0 10 [] rfl rfl (by kernel_rfl) (by kernel_rfl) (fun K hK => ?_)
      rw [mask HN.out hs1 hs8]; go_wp2_with (go_at_call 83; go_loud (refine (put_ok (nk % 256 ^ sk) sk _ hs1 hs8 (Nat.mod_lt _ (Nat.pow_pos (by decide)))).mono ?_; rintro e w2 ⟨rfl, hp⟩; have HP := Lib.hid hp; clear hp))
      refine ⟨trivial, ?_⟩
      -- 11: move
      refine wpY_pure0 11 rfl rfl (by kernel_rfl) (by kernel_rfl) (fun K hK => ?_); go_wp2_with fail
      -- 12: extract
      refine wpY_pure0 12 rfl rfl (by kernel_rfl) (by kernel_rfl) (fun K hK => ?_); go_wp2_with fail
      -- 13: extract
      refine wpY_pure0 13 rfl rfl (by kernel_rfl) (by kernel_rfl) (fun K hK => ?_); go_wp2_with fail
      -- 14: assign
      refine wpY_pure0 14 rfl rfl (by kernel_rfl) (by kernel_rfl) (fun K hK => ?_); go_wp2_with fail
      -- 15: assign
      refine wpY_pure0 15 rfl rfl (by kernel_rfl) (by kernel_rfl) (fun K hK => ?_); go_wp2_with fail
      refine wpY_done (by kernel_rfl) ?_ _
      have HW := Lib.hid ((HK.out.keep (((Fr.refl (fun _ => False) wr).alloc _).drew.trans HP.out.2.2 (fun _ _ => id))))
      go_wp2_with (at_builtin; go_loud (refine wpList_append _ rfl (.tmp 34) (.tmp 35) 24 24 rfl 5 i0 (.int .u8 0) 1 1 Try.underlying24 hi hz0 hz1 hz2 rfl (by decide) (.slice av _ cv) _ (bv L) rfl HW.out.1 _ sk (bv (putB (nk % 256 ^ sk) sk)) rfl ?_ (by unfold maxLen; omega) (by omega) ?_))
      · have := HP.out.1.rd.src (P := Try.prog) Try.underlying24 (bv_one _)
        rw [putB_length, show (wr.alloc (.cells #[.int .u64 nk, .int .i64 sk] 124)).drew.heap.size = wr.heap.size + 1 by simp] at this
        exact this
      intro v' w3 hap
      have hap' := Lib.hid hap
      clear hap
      go_wp2_with fail
      go_roundw
      case rel => exact ⟨k + 1, by omega, by go_num, message_step HL.out hlt HX.out HW.out hap'.out⟩
      case measure => simp [intOf]; omega
    · go_wp2_with (at_builtin; go_loud (refine wpList_append _ rfl (.tmp 38) (.tmp 39) 24 24 rfl 5 i0 (.int .u8 0) 1 1 Try.underlying24 hi hz0 hz1 hz2 rfl (by decide) (.slice av _ cv) _ (bv L) rfl HK.out.1 data d.length (bv d) rfl ((HD.out.keep HK.out.2.2 (fun _ _ => id)).src Try.underlying24 (bv_one d)) (by unfold maxLen; omega) (by omega) ?_; intro v' w' hap))
      go_wp2_with fail
      go_returns
      have hke : fs.take k = fs := List.take_of_length_le (by omega)
      refine ⟨_, rfl, ?_⟩
      have := HK.out.append hap
      rw [← HL.out, hke] at this
      exact this

end Go.Proofs.Ytpelpmhopmefoaa
