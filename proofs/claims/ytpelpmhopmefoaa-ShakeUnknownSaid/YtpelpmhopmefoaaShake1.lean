/-
Walks of package shake: numbers, the export.
-/
import Derived.Test.YtpelpmhopmefoaaShake0
namespace Go.Proofs.Ytpelpmhopmefoaa
open Go.RowKit Go.Cof
set_option maxRecDepth 100000
set_option linter.unusedSimpArgs false

/-- Numbers, each in so many bytes. -/
def numCells (fs : List (Nat × Nat)) : List Value := fs.flatMap fun f => [.int .i64 f.1, .int .i64 f.2]
def numB (fs : List (Nat × Nat)) : List UInt8 := fs.flatMap fun f => putB f.1 f.2

theorem num_get0 {fs : List (Nat × Nat)} {k n s : Nat} (h : k < fs.length) (hx : fs.getD k (0, 0) = (n, s)) : (numCells fs)[k * 2]? = some (.int .i64 n) := by
  induction fs generalizing k with
  | nil => simp at h
  | cons f r ih =>
    cases k with
    | zero => simp at hx; subst hx; rfl
    | succ k =>
      have := ih (k := k) (by simpa using h) (by simpa using hx)
      rw [show (k + 1) * 2 = k * 2 + 2 by omega]
      simpa [numCells] using this
theorem num_get1 {fs : List (Nat × Nat)} {k n s : Nat} (h : k < fs.length) (hx : fs.getD k (0, 0) = (n, s)) : (numCells fs)[k * 2 + 1]? = some (.int .i64 s) := by
  induction fs generalizing k with
  | nil => simp at h
  | cons f r ih =>
    cases k with
    | zero => simp at hx; subst hx; rfl
    | succ k =>
      have := ih (k := k) (by simpa using h) (by simpa using hx)
      rw [show (k + 1) * 2 + 1 = k * 2 + 1 + 2 by omega]
      simpa [numCells] using this
theorem numB_len {fs : List (Nat × Nat)} (k : Nat) (h : ∀ f ∈ fs, f.2 ≤ 8) (hl : fs.length ≤ 8) : (numB (fs.take k)).length ≤ 64 := by
  have key : ∀ gs : List (Nat × Nat), (∀ f ∈ gs, f.2 ≤ 8) → (numB gs).length ≤ gs.length * 8 := by
    intro gs
    induction gs with
    | nil => intro _; simp [numB]
    | cons f r ih =>
      intro hg
      have h1 := hg f (by simp)
      have h2 := ih (fun x hx => hg x (by simp [hx]))
      have e : numB (f :: r) = putB f.1 f.2 ++ numB r := by simp [numB]
      rw [e, List.length_append, putB_length, List.length_cons]
      omega
  have := key (fs.take k) (fun f hf => h f (List.mem_of_mem_take hf))
  rw [List.length_take] at this
  omega
theorem num_step {w w2 w3 : World} {L : List UInt8} {fs : List (Nat × Nat)} {k n s : Nat} {v v' : Value} (hL : numB (fs.take k) = L) (hk : k < fs.length) (hx : fs.getD k (0, 0) = (n, s))
    (h : FreshBytes w w2 L v) (hap : Appended w2 w3 5 1 v v' (L.length + s) (bv L ++ bv (putB n s))) : FreshBytes w w3 (numB (fs.take (k + 1))) v' := by
  have e : fs.take (k + 1) = fs.take k ++ [(n, s)] := by
    rw [List.take_add_one, List.getElem?_eq_getElem hk]
    rw [List.getD_eq_getElem?_getD, List.getElem?_eq_getElem hk] at hx
    simp only [Option.getD_some] at hx
    rw [hx]
    rfl
  have e2 : numB (fs.take k ++ [(n, s)]) = numB (fs.take k) ++ putB n s := by simp [numB]
  rw [e, e2, hL]
  refine h.append ?_
  rw [putB_length]
  exact hap

set_option maxHeartbeats 1000000 in
theorem numbers_any (fv : Value) (fs : List (Nat × Nat)) (w : World) (hf : Rd w 2 fv fs.length (numCells fs)) (hf0 : 0 < fs.length) (hfl : fs.length ≤ 8)
    (hok : ∀ f ∈ fs, f.1 < 256 ^ f.2 ∧ 1 ≤ f.2 ∧ f.2 ≤ 8 ∧ (f.1 : Int) ≤ 9223372036854775807) : Calls Try.prog 91 #[fv] w (Makes (numB fs) w) := by
  obtain ⟨i0, hi, hz0, hz1, hz2⟩ := info_parts Try.info5
  obtain ⟨a, cf, rfl, hf1, hf2, hf3, hf4⟩ := id hf
  obtain ⟨b, rfl⟩ : ∃ b, a = some b := by
    cases a with
    | none => have := (hf3 rfl).1; omega
    | some b => exact ⟨b, rfl⟩
  obtain ⟨p1, p2, p3⟩ := hf4 b rfl
  obtain ⟨g, o, s⟩ := b
  simp only at p1 p2 p3
  subst p1
  have P3 := Lib.hid p3
  have HO := Lib.hid hok
  clear hf hf1 hf2 hf3 hf4 p3 hok
  go_enter Try.func91, Try.ntmps91
  go_wp2_with fail
  go_loopw [3, 10] (fun v i wr => ∃ k : Nat, k ≤ fs.length ∧ i = .int .i64 k ∧ FreshBytes w wr (numB (fs.take k)) v) (fun _ i _ => fs.length - (intOf i).toNat)
  case atStart => exact ⟨0, Nat.zero_le _, rfl, by simp [numB]; exact ⟨Sl.nil _ _ _, (fun g hg => by cases hg), Fr.refl _ _⟩⟩
  case round =>
    obtain ⟨k, hk, rfl, hFk⟩ := hrel
    obtain ⟨nk, sk, hx⟩ : ∃ n s, fs.getD k (0, 0) = (n, s) := ⟨_, _, rfl⟩
    have hc0 : k < fs.length → wr.cell? ⟨g, o + k * 2, none⟩ = some (.int .i64 nk) := fun h => hFk.2.2.cell (P3.out (k * 2) _ (num_get0 h hx)) id
    have hc1 : k < fs.length → wr.cell? ⟨g, o + k * 2 + 1, none⟩ = some (.int .i64 sk) := fun h => hFk.2.2.cell (P3.out (k * 2 + 1) _ (num_get1 h hx)) id
    have hgr := Nat.lt_of_lt_of_le p2 hFk.2.2.size
    have hLen := numB_len (fs := fs) k (fun f hf => (HO.out f hf).2.2.1) hfl
    obtain ⟨L, hL⟩ : ∃ L, numB (fs.take k) = L := ⟨_, rfl⟩
    rw [hL] at hFk hLen
    have HL := Lib.hid hL
    obtain ⟨av, cv, rfl⟩ := hFk.1.form
    clear hL
    have HX := Lib.hid hx
    have HK := Lib.hid hFk
    clear hx hFk
    by_cases hlt : k < fs.length
    · replace hc0 := hc0 hlt
      replace hc1 := hc1 hlt
      obtain ⟨hn8, hs1, hs8, hn63⟩ := HO.out (nk, sk) (field_mem hlt HX.out)
      simp only at hn8 hs1 hs8 hn63
      have HN := Lib.hid hn8
      clear hn8
      go_wp2_with (first
        | (go_at_call 83; go_loud (refine (put_ok nk sk _ hs1 hs8 HN.out).mono ?_; rintro e w2 ⟨rfl, hp⟩; have HP := Lib.hid hp; clear hp; have HW := Lib.hid (HK.out.keep (((Fr.refl (fun _ => False) wr).alloc _).trans HP.out.2.2 (fun _ _ => id)))))
        | (at_builtin; refine wpList_append _ rfl (.tmp 23) (.tmp 24) 24 24 rfl 5 i0 (.int .u8 0) 1 1 Try.underlying24 hi hz0 hz1 hz2 rfl (by decide) (.slice av _ cv) _ (bv L) rfl HW.out.1 _ sk (bv (putB nk sk)) rfl ?c1 (by unfold maxLen; omega) (by omega) ?c2))
      case c1 =>
        have := HP.out.1.rd.src (P := Try.prog) Try.underlying24 (bv_one _)
        rw [putB_length, show (wr.alloc (.cells #[.int .i64 nk, .int .i64 sk] 135)).heap.size = wr.heap.size + 1 by simp] at this
        exact this
      intro v' w3 hap
      have hap' := Lib.hid hap
      clear hap
      go_wp2_with fail
      go_roundw
      case rel => exact ⟨k + 1, by omega, by go_num, num_step HL.out hlt HX.out HW.out hap'.out⟩
      case measure => simp [intOf]; omega
    · go_wp2_with fail
      go_returns
      have hke : fs.take k = fs := List.take_of_length_le (by omega)
      have e : L = numB fs := by rw [← HL.out, hke]
      refine ⟨_, rfl, ?_⟩
      rw [← e]
      exact HK.out

end Go.Proofs.Ytpelpmhopmefoaa
