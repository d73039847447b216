/-
Walks of package cofferdamref01: the document's numbers as bytes; bytes compared.
-/
import Derived.Laws.IdiomStrings
import Derived.Test.YtpelpmhopmefoaaOct0
namespace Go.Proofs.Ytpelpmhopmefoaa
open Go.RowKit Go.Cof
set_option maxRecDepth 100000
set_option linter.unusedSimpArgs false

/-- Bytes as a string. -/
def strB (l : List UInt8) : ByteArray := ⟨l.toArray⟩
theorem strB_inj {a b : List UInt8} : strB a = strB b ↔ a = b := by
  constructor
  · intro h
    have : (strB a).data.toList = (strB b).data.toList := by rw [h]
    simpa [strB] using this
  · rintro rfl; rfl

theorem BV.str {P : Program} {w : World} {v : Value} {l : List UInt8} (h : BV w v l) {src dst e : TypeId} (hs : P.underlying src = some (.slice e)) (he : P.underlying e = some (.int .u8)) (hd : P.underlying dst = some .string) :
    (convert src dst v).run P w = .ok (.string (strB l)) w := by
  rcases h.cases with ⟨rfl, rfl⟩ | ⟨g, o, c, rfl, hc, hg, hx⟩
  · rw [run_convert_bytes_string w src dst e none 0 0 hs he hd]
    simp [Conv.bytesToString]
    rfl
  · exact run_convert_bytes_back w src dst e ⟨g, o, none⟩ c l hs he hd (fun j hj => by
      rw [Addr.add_lit, hx j hj]
      simp [List.getD_eq_getElem?_getD, hj])

theorem toList_strB (a : List UInt8) : (strB a).toList = a := by
  rw [ByteArray.toList_eq]
  rfl

theorem same_any (v1 v2 : Value) (l1 l2 : List UInt8) (w : World) (h1 : BV w v1 l1) (h2 : BV w v2 l2) : Calls Try.prog 21 #[v1, v2] w fun e w' => e = .returned (.bool (l1 == l2)) ∧ w = w' := by
  have k1 := h1.str (P := Try.prog) (src := 24) (dst := 9) Try.underlying24 Try.underlying5 Try.underlying9
  have k2 := h2.str (P := Try.prog) (src := 24) (dst := 9) Try.underlying24 Try.underlying5 Try.underlying9
  obtain ⟨a1, c1, rfl⟩ := h1.form
  obtain ⟨a2, c2, rfl⟩ := h2.form
  go_enter Try.func21, Try.ntmps21
  go_wp2
  go_ret
  rw [toList_strB, toList_strB]
  exact ⟨rfl, rfl⟩

theorem rget_bad (v : Value) (l : List UInt8) (w : World) (h : BV w v l) (hl : l.length < 1 ∨ 8 < l.length) : Calls Try.prog 23 #[v] w fun e w' => e = .returned (.tuple #[.int .u64 0, .int .i64 1]) ∧ w = w' := by
  obtain ⟨a, c, rfl⟩ := h.form
  rcases hl with hl | hl
  all_goals
    go_enter Try.func23, Try.ntmps23
    go_wp2
    go_ret2
    exact ⟨rfl, rfl⟩

def quo (n k : Nat) : Nat := n / 256 ^ k
theorem quo_zero (n : Nat) : quo n 0 = n := by simp [quo]
theorem quo_succ (n k : Nat) : quo n (k + 1) = quo n k / 256 := by simp [quo, Nat.pow_succ, Nat.div_div_eq_div_mul]
theorem quo_le (n k : Nat) : quo n k ≤ n := Nat.div_le_self _ _
theorem add_step (n : Nat) (b : Nat) (hn : n < 256 ^ 7) (hb : b < 256) : IntKind.u64.wrap (IntKind.u64.wrap (256 * (n : Int)) + IntKind.u64.wrap (b : Int)) = ((n * 256 + b : Nat) : Int) := by
  rw [IntWalk.u64_in (256 * (n : Int)) (by omega), IntWalk.u64_in (b : Int) (by omega), IntWalk.u64_in _ (by omega)]
  omega

theorem rget_ok (v : Value) (l : List UInt8) (w : World) (h : BV w v l) (h1 : 1 ≤ l.length) (h8 : l.length ≤ 8) : Calls Try.prog 23 #[v] w fun e w' => e = .returned (.tuple #[.int .u64 (getN l), .int .i64 0]) ∧ w = w' := by
  rcases h.cases with ⟨_, rfl⟩ | ⟨g, o, c, rfl, hc, hg, hx⟩
  · simp at h1
  go_enter Try.func23, Try.ntmps23
  go_wp2
  go_loop [4, 5] (fun n i => ∃ k : Nat, k ≤ l.length ∧ i = .int .i64 k ∧ n = .int .u64 (getN (l.take k))) (fun _ i => l.length - (intOf i).toNat)
  case atStart => exact ⟨0, Nat.zero_le _, rfl, rfl⟩
  case round =>
    obtain ⟨k, hk, rfl, rfl⟩ := hrel
    have hcell : k < l.length → w.cell? ⟨g, o + k, none⟩ = some (.int .u8 (l.getD k 0).toNat) := fun h => hx k h
    clear hx
    go_wp2
    · have hlt : k < l.length := by assumption
      have hN := getN_lt (l.take k)
      have hN7 : getN (l.take k) < 256 ^ 7 := Nat.lt_of_lt_of_le hN (Nat.pow_le_pow_right (by decide) (by rw [List.length_take]; omega))
      have hb := (l[k]).toNat_lt
      go_round
      case rel =>
        refine ⟨k + 1, by omega, by go_num, ?_⟩
        rw [add_step _ _ hN7 (by omega), take_snoc hlt, getN_snoc]
        simp [List.getD_eq_getElem?_getD, hlt]
      case measure => simp [intOf]; omega
    · have : k = l.length := by omega
      subst this
      go_ret2
      exact ⟨by simp, rfl⟩

/-! ### Put, Bytes -/
def rpart (n s k : Nat) : List UInt8 := List.replicate (s - k) 0 ++ (putB n s).drop (s - k)
theorem rpart_zero (n s : Nat) : rpart n s 0 = List.replicate s 0 := by
  have := putB_length n s
  simp [rpart, this]
theorem rpart_end (n s : Nat) : rpart n s s = putB n s := by simp [rpart]
theorem rpart_get (n s k : Nat) (h : k < s) : (rpart n s k)[s - 1 - k]? = some 0 := by
  rw [rpart, List.getElem?_append_left (by simp; omega), List.getElem?_replicate, if_pos (by omega)]
theorem rpart_step (n s k : Nat) (h : k < s) : (rpart n s k).set (s - 1 - k) (UInt8.ofNat (n / 256 ^ k)) = rpart n s (k + 1) := by
  have hl := putB_length n s
  have e : s - k = (s - (k + 1)) + 1 := by omega
  have g := putB_get n s (s - (k + 1)) (by omega)
  have e2 : s - 1 - (s - (k + 1)) = k := by omega
  rw [e2] at g
  rw [rpart, rpart, e, List.replicate_succ', List.append_assoc, List.set_append_right _ _ (by simp; omega), List.length_replicate, show s - 1 - k - (s - (k + 1)) = 0 by omega, List.singleton_append, List.set_cons_zero]
  rw [List.drop_eq_getElem_cons (i := s - (k + 1)) (by omega)]
  rw [List.getElem?_eq_getElem (by omega)] at g
  rw [Option.some.inj g]

theorem rput_step {wr : World} {B n s k : Nat} (h : Sl wr 5 1 (.slice (some ⟨B, 0, none⟩) s s) s (bv (rpart n s k))) (hk : k < s) :
    Sl (wr.setCell ⟨B, s - 1 - k, none⟩ (.int .u8 ((quo n k : Nat) % 256 : Int))) 5 1 (.slice (some ⟨B, 0, none⟩) s s) s (bv (rpart n s (k + 1))) := by
  have := h.setAt (k := s - 1 - k) (by omega) (.int .u8 (UInt8.ofNat (n / 256 ^ k)).toNat)
  rw [← rpart_step n s k hk]
  have e : ((quo n k : Nat) % 256 : Int) = ((UInt8.ofNat (n / 256 ^ k)).toNat : Int) := by
    rw [UInt8.toNat_ofNat', quo]
    push_cast
    rfl
  rw [e]
  simpa [bv, List.map_set] using this

set_option maxHeartbeats 1000000 in
theorem rput_ok (n s : Nat) (w : World) (h1 : 1 ≤ s) (h8 : s ≤ 8) (hn : n < 256 ^ s) : Calls Try.prog 62 #[.int .u64 n, .int .i64 s] w (PutDone n s w) := by
  obtain ⟨i0, hi, hz0, hz1, hz2⟩ := info_parts Try.info5
  have HM := Lib.hid (made_bytes s)
  have HN := Lib.hid hn
  clear hn
  go_enter Try.func62, Try.ntmps62
  go_wp2_with (at_make; refine wpList_op rfl fun K hK => op_make (.tmp 14) (.tmp 14) 24 rfl 5 i0 _ 1 1 Try.underlying24 hi hz0 hz1 hz2 s s s rfl rfl rfl rfl (by omega) (by unfold maxLen; omega) ?_; intro w1 hm hfw; refine hK _ _ ?_; simp only [Act.put, List.setIfInBounds_toArray, List.set_cons_zero, List.set_cons_succ])
  go_loopw [0, 7] (fun m i wr => ∃ k : Nat, k ≤ s ∧ m = .int .u64 ((quo n k : Nat) : Int) ∧ i = .int .i64 ((s : Int) - 1 - k) ∧ Sl wr 5 1 (.slice (some ⟨w.heap.size, 0, none⟩) s s) s (bv (rpart n s k)) ∧ Fr (fun j => j = w.heap.size) w1 wr) (fun _ i _ => (intOf i + 1).toNat)
  case atStart =>
    refine ⟨0, Nat.zero_le _, by rw [quo_zero], by simp, ?_, Fr.refl _ _⟩
    rw [rpart_zero, ← HM.out]
    exact hm
  case round =>
    obtain ⟨k, hk, rfl, rfl, hS, hF⟩ := hrel
    have hc : (k : Int) ≤ (s : Int) - 1 → wr.cell? ⟨w.heap.size, s - 1 - k, none⟩ = some (.int .u8 0) := fun h => by
      have := hS.cellAt (k := s - 1 - k) (u := .int .u8 0) (by simp [bv, rpart_get n s k (by omega)])
      simpa using this
    have hq : (quo n k : Int) ≤ 18446744073709551615 := by
      have := quo_le n k
      have := HN.out
      have : 256 ^ s ≤ 256 ^ 8 := Nat.pow_le_pow_right (by decide) h8
      omega
    have hf : (k : Int) ≤ (s : Int) - 1 → wr.frozen? ⟨w.heap.size, s - 1 - k, none⟩ = false := fun h => by
      have := hS.frozenAt (k := s - 1 - k) (by omega)
      simpa using this
    have HS := Lib.hid hS
    have HF := Lib.hid hF
    clear hS hF
    go_wp2
    · have hlt : k < s := by omega
      go_roundw
      case rel =>
        refine ⟨k + 1, by omega, ?_, ?_, rput_step HS.out hlt, HF.out.setB rfl _ _⟩
        · rw [quo_succ]; rfl
        · rw [show ((s : Int) - 1 - k - 1) = (s : Int) - 1 - (k + 1 : Nat) by omega]
      case measure => simp [intOf]; omega
    · exfalso
      have : k = s := by omega
      subst this
      have : quo n k = 0 := Nat.div_eq_of_lt HN.out
      omega
    · have : k = s := by omega
      subst this
      go_ret2
      have hS := HS.out
      rw [rpart_end, ← part_end] at hS
      exact put_end hS HF.out hfw

def BytesDone (n s : Nat) (w : World) (e : Ending) (w' : World) : Prop :=
  e = .returned (.slice (some ⟨w.heap.size, 0, none⟩) s s) ∧ FreshBytes w w' (putB n s) (.slice (some ⟨w.heap.size, 0, none⟩) s s)

theorem bytes_ok (n s : Nat) (w : World) (h1 : 1 ≤ s) (h8 : s ≤ 8) (hn : n < 256 ^ s) : Calls Try.prog 40 #[.int .u64 n, .int .i64 s] w (BytesDone n s w) := by
  have HN := Lib.hid hn
  clear hn
  go_enter Try.func40, Try.ntmps40
  go_wp2_with (go_at_call 62; refine (rput_ok n s w h1 h8 HN.out).mono ?_; rintro e w' ⟨rfl, hp⟩)
  go_returns
  exact ⟨rfl, hp⟩

end Go.Proofs.Ytpelpmhopmefoaa
