/-
Walks of package octets: numbers as bytes; bytes as slices.
-/
import Derived.Test.YtpelpmhopmefoaaProg
import Derived.Test.YtpelpmhopmefoaaMore
import Derived.Test.YtpelpmhopmefoaaDraw2
import Derived.Deep.RegionHeld3
import Derived.StillTailTactics
import Derived.Deep.QuietTactic
import Derived.BigQuiet
import Derived.WalkSpells
import Derived.WalkLawsBesides
import Derived.Outline
import Derived.Lib.Hide
import Derived.Deep.DeepCutAuto
import Derived.LoopN
import Derived.Laws.BitsAllLaws
import Derived.LoopTactic
import Derived.Deep.LoopGhost
namespace Go.Proofs.Ytpelpmhopmefoaa
open Go.RowKit Go.Cof
set_option maxRecDepth 100000
set_option linter.unusedSimpArgs false

theorem Try.info5 : (Try.prog.info? 5).map (fun i => (i.zero, i.size, i.bytes)) = some (some (.int .u8 0), 1, 1) := by kernel_rfl

def bv (l : List UInt8) : List Value := l.map fun b => Value.int .u8 b.toNat
theorem bv_one (l : List UInt8) : ∀ u ∈ bv l, u.oneCell' = true := by
  intro u hu
  obtain ⟨b, _, rfl⟩ := List.mem_map.1 hu
  rfl
theorem bv_append (a b : List UInt8) : bv (a ++ b) = bv a ++ bv b := by simp [bv]
theorem bv_length (a : List UInt8) : (bv a).length = a.length := by simp [bv]
theorem bv_get {l : List UInt8} {k : Nat} (h : k < l.length) : (bv l)[k]? = some (.int .u8 (l.getD k 0).toNat) := by
  simp [bv, List.getD_eq_getElem?_getD, h]

/-- v reads as the bytes l. -/
def BV (w : World) (v : Value) (l : List UInt8) : Prop := Rd w 1 v l.length (bv l)

/-- A fresh slice of bytes. -/
def FreshBytes (w w' : World) (l : List UInt8) (v : Value) : Prop :=
  Sl w' 5 1 v l.length (bv l) ∧ (∀ g, v.ownBlock = some g → w.heap.size ≤ g) ∧ Fr (fun _ => False) w w'

theorem BV.form {w : World} {v : Value} {l : List UInt8} (h : BV w v l) : ∃ a c, v = .slice a l.length c := by
  obtain ⟨a, c, rfl, _⟩ := h
  exact ⟨a, c, rfl⟩
theorem BV.cases {w : World} {v : Value} {l : List UInt8} (h : BV w v l) :
    (v = .slice none 0 0 ∧ l = []) ∨ ∃ g o c, v = .slice (some ⟨g, o, none⟩) l.length c ∧ l.length ≤ c ∧ g < w.heap.size ∧ ∀ k, k < l.length → w.cell? ⟨g, o + k, none⟩ = some (.int .u8 (l.getD k 0).toNat) := by
  obtain ⟨a, c, rfl, h1, h2, h3, h4⟩ := h
  cases a with
  | none =>
    obtain ⟨e1, rfl⟩ := h3 rfl
    exact .inl ⟨by rw [e1], List.eq_nil_of_length_eq_zero e1⟩
  | some b =>
    obtain ⟨p1, p2, p3⟩ := h4 b rfl
    obtain ⟨g, o, s⟩ := b
    simp only at p1 p2 p3
    subst p1
    exact .inr ⟨g, o, c, rfl, h1, p2, fun k hk => p3 k _ (bv_get hk)⟩

def getN (l : List UInt8) : Nat := l.foldl (fun n b => n * 256 + b.toNat) 0
theorem getN_snoc (l : List UInt8) (b : UInt8) : getN (l ++ [b]) = getN l * 256 + b.toNat := by simp [getN]
theorem getN_lt (l : List UInt8) : getN l < 256 ^ l.length := by
  suffices h : ∀ (n : Nat) (l : List UInt8), l.length = n → getN l < 256 ^ n from h _ l rfl
  intro n
  induction n with
  | zero => intro l h; rw [List.eq_nil_of_length_eq_zero h]; decide
  | succ n ih =>
    intro l h
    have hne : l ≠ [] := by intro e; subst e; simp at h
    rw [← List.dropLast_concat_getLast hne, getN_snoc, Nat.pow_succ]
    have := ih l.dropLast (by simp [h])
    have := (l.getLast hne).toNat_lt
    omega
theorem take_snoc {l : List UInt8} {k : Nat} (h : k < l.length) : l.take (k + 1) = l.take k ++ [l.getD k 0] := by
  rw [List.take_add_one]
  simp [List.getD_eq_getElem?_getD, h]

theorem or_step (n : Nat) (b : Nat) (hn : n < 256 ^ 7) (hb : b < 256) : bits .or .u64 (IntKind.u64.wrap ((n : Int) * 256)) (IntKind.u64.wrap (b : Int)) = ((n * 256 + b : Nat) : Int) := by
  rw [IntWalk.u64_in _ (by omega), IntWalk.u64_in _ (by omega), show ((n : Int) * 256) = ((n * 256 : Nat) : Int) by omega, u64_or_nat _ _ (by omega) (by omega)]
  rw [nat_join 8 _ _ (by omega) (by omega)]

theorem get_bad (v : Value) (l : List UInt8) (w : World) (h : BV w v l) (hl : l.length < 1 ∨ 8 < l.length) : Calls Try.prog 70 #[v] w fun e w' => e = .returned (.tuple #[.int .u64 0, .int .i64 1]) ∧ w = w' := by
  obtain ⟨a, c, rfl⟩ := h.form
  rcases hl with hl | hl
  all_goals
    go_enter Try.func70, Try.ntmps70
    go_wp2
    go_ret2
    exact ⟨rfl, rfl⟩

theorem get_ok (v : Value) (l : List UInt8) (w : World) (h : BV w v l) (h1 : 1 ≤ l.length) (h8 : l.length ≤ 8) : Calls Try.prog 70 #[v] w fun e w' => e = .returned (.tuple #[.int .u64 (getN l), .int .i64 0]) ∧ w = w' := by
  rcases h.cases with ⟨_, rfl⟩ | ⟨g, o, c, rfl, hc, hg, hx⟩
  · simp at h1
  go_enter Try.func70, Try.ntmps70
  go_wp2
  go_loop [4, 17] (fun n i => ∃ k : Nat, k ≤ l.length ∧ i = .int .i64 k ∧ n = .int .u64 (getN (l.take k))) (fun _ i => l.length - (intOf i).toNat)
  case atStart => exact ⟨0, Nat.zero_le _, rfl, rfl⟩
  case round =>
    obtain ⟨k, hk, rfl, rfl⟩ := hrel
    have hcell : k < l.length → w.cell? ⟨g, o + k, none⟩ = some (.int .u8 (l.getD k 0).toNat) := fun h => hx k h
    clear hx
    go_wp2
    · have hlt : k < l.length := by assumption
      have hN := getN_lt (l.take k)
      have hN7 : getN (l.take k) < 256 ^ 7 := Nat.lt_of_lt_of_le hN (Nat.pow_le_pow_right (by decide) (by rw [List.length_take]; omega))
      have hb := (l[k]).toNat_lt
      go_round
      case rel =>
        refine ⟨k + 1, by omega, by go_num, ?_⟩
        rw [or_step _ _ hN7 (by omega), take_snoc hlt, getN_snoc]
        simp [List.getD_eq_getElem?_getD, hlt]
      case measure => simp [intOf]; omega
    · have : k = l.length := by omega
      subst this
      go_ret2
      exact ⟨by simp, rfl⟩

/-! ### Put -/
def putB (n s : Nat) : List UInt8 := (List.range s).map fun i => UInt8.ofNat (n / 256 ^ (s - 1 - i))
theorem putB_length (n s : Nat) : (putB n s).length = s := by simp [putB]
theorem putB_get (n s k : Nat) (h : k < s) : (putB n s)[k]? = some (UInt8.ofNat (n / 256 ^ (s - 1 - k))) := by simp [putB, h]
def part (n s k : Nat) : List UInt8 := (putB n s).take k ++ List.replicate (s - k) 0
theorem part_zero (n s : Nat) : part n s 0 = List.replicate s 0 := by simp [part]
theorem part_end (n s : Nat) : part n s s = putB n s := by
  have := putB_length n s
  simp [part, List.take_of_length_le, this]
theorem part_length (n s k : Nat) (h : k ≤ s) : (part n s k).length = s := by
  have := putB_length n s
  simp [part, this]
  omega
theorem part_get (n s k : Nat) (h : k < s) : (part n s k)[k]? = some 0 := by
  have hl := putB_length n s
  have ht : ((putB n s).take k).length = k := by rw [List.length_take, hl]; omega
  rw [part, List.getElem?_append_right (by omega), ht, Nat.sub_self, List.getElem?_replicate]
  rw [if_pos (by omega)]
theorem part_step (n s k : Nat) (h : k < s) : (part n s k).set k (UInt8.ofNat (n / 256 ^ (s - 1 - k))) = part n s (k + 1) := by
  have hl := putB_length n s
  have e : s - k = (s - (k + 1)) + 1 := by omega
  have ht : ((putB n s).take k).length = k := by simp [hl]; omega
  rw [part, part, e, List.replicate_succ, List.set_append_right _ _ (by omega), ht, Nat.sub_self, List.set_cons_zero, List.take_add_one, putB_get n s k h]
  simp

theorem put_bad (n : Nat) (s : Int) (w : World) (h : s < 1 ∨ 8 < s) : Calls Try.prog 83 #[.int .u64 n, .int .i64 s] w fun e w' => e = .returned (.tuple #[.slice none 0 0, .int .i64 1]) ∧ w = w' := by
  rcases h with h | h
  all_goals
    go_enter Try.func83, Try.ntmps83
    go_wp2
    go_ret2
    exact ⟨rfl, rfl⟩

theorem made_bytes (n : Nat) : (madeCells #[Value.int .u8 0] (n * 1)).toList = bv (List.replicate n 0) := by
  rw [toList_madeCells_one]
  simp [bv]

def PutDone (n s : Nat) (w : World) (e : Ending) (w' : World) : Prop :=
  e = .returned (.tuple #[.slice (some ⟨w.heap.size, 0, none⟩) s s, .int .i64 0]) ∧ FreshBytes w w' (putB n s) (.slice (some ⟨w.heap.size, 0, none⟩) s s)

theorem byte_of (n s k : Nat) : (n : Int) / 2 ^ (8 * (s - 1 - k)) % 256 = ((UInt8.ofNat (n / 256 ^ (s - 1 - k))).toNat : Int) := by
  rw [UInt8.toNat_ofNat', show (256 : Nat) ^ (s - 1 - k) = 2 ^ (8 * (s - 1 - k)) by rw [Nat.pow_mul]]
  generalize 8 * (s - 1 - k) = m
  push_cast
  rfl
theorem put_step {wr : World} {B n s k : Nat} (h : Sl wr 5 1 (.slice (some ⟨B, 0, none⟩) s s) s (bv (part n s k))) (hk : k < s) :
    Sl (wr.setCell ⟨B, k, none⟩ (.int .u8 ((n : Int) / 2 ^ (8 * (s - 1 - k)) % 256))) 5 1 (.slice (some ⟨B, 0, none⟩) s s) s (bv (part n s (k + 1))) := by
  have := h.setAt hk (.int .u8 (UInt8.ofNat (n / 256 ^ (s - 1 - k))).toNat)
  rw [byte_of, ← part_step n s k hk]
  simpa [bv, List.map_set] using this
theorem put_end {w w1 wr : World} {n s : Nat} (h : Sl wr 5 1 (.slice (some ⟨w.heap.size, 0, none⟩) s s) s (bv (part n s s))) (hF : Fr (fun j => j = w.heap.size) w1 wr) (hf : Fr (fun _ => False) w w1) :
    PutDone n s w (.returned (.tuple #[.slice (some ⟨w.heap.size, 0, none⟩) s s, .int .i64 0])) wr := by
  rw [part_end] at h
  refine ⟨rfl, ?_, fun g hg => by cases hg; exact Nat.le_refl _, Fr.of_below0 ((hf.mono (S' := fun j => j = w.heap.size) (fun _ _ => False.elim)).trans hF (fun _ _ => id) |>.fresh (fun k hk e => by omega))⟩
  rw [putB_length]
  exact h

set_option maxHeartbeats 1000000 in
theorem put_ok (n s : Nat) (w : World) (h1 : 1 ≤ s) (h8 : s ≤ 8) (hn : n < 256 ^ s) : Calls Try.prog 83 #[.int .u64 n, .int .i64 s] w (PutDone n s w) := by
  obtain ⟨i0, hi, hz0, hz1, hz2⟩ := info_parts Try.info5
  have HM := Lib.hid (made_bytes s)
  have hz : (n : Int) / 2 ^ (8 * s) = 0 := Int.ediv_eq_zero_of_lt (by omega) (by
    have : (256 : Nat) ^ s = 2 ^ (8 * s) := by rw [Nat.pow_mul]
    rw [this] at hn
    exact_mod_cast hn)
  clear hn
  go_enter Try.func83, Try.ntmps83
  go_wp2_with (at_make; refine wpList_op rfl fun K hK => op_make (.tmp 25) (.tmp 25) 24 rfl 5 i0 _ 1 1 Try.underlying24 hi hz0 hz1 hz2 s s s rfl rfl rfl rfl (by omega) (by unfold maxLen; omega) ?_; intro w1 hm hfw; refine hK _ _ ?_; simp only [Act.put, List.setIfInBounds_toArray, List.set_cons_zero, List.set_cons_succ])
  all_goals
    go_loopw [29] (fun i wr => ∃ k : Nat, k ≤ s ∧ i = .int .i64 k ∧ Sl wr 5 1 (.slice (some ⟨w.heap.size, 0, none⟩) s s) s (bv (part n s k)) ∧ Fr (fun j => j = w.heap.size) w1 wr) (fun i _ => s - (intOf i).toNat)
    case atStart =>
      refine ⟨0, Nat.zero_le _, rfl, ?_, Fr.refl _ _⟩
      rw [part_zero, ← HM.out]
      exact hm
    case round =>
      obtain ⟨k, hk, rfl, hS, hF⟩ := hrel
      have hc : k < s → wr.cell? ⟨w.heap.size, k, none⟩ = some (.int .u8 0) := fun h => by
        have := hS.cellAt (k := k) (u := .int .u8 0) (by simp [bv, part_get n s k h])
        simpa using this
      have hf : k < s → wr.frozen? ⟨w.heap.size, k, none⟩ = false := fun h => by
        have := hS.frozenAt h
        simpa using this
      have HS := Lib.hid hS
      have HF := Lib.hid hF
      clear hS hF
      go_wp2
      · have hlt : k < s := by assumption
        go_roundw
        case rel => exact ⟨k + 1, by omega, by go_num, put_step HS.out hlt, HF.out.setB rfl _ _⟩
        case measure => simp [intOf]; omega
      · have : k = s := by omega
        subst this
        go_ret2
        exact put_end HS.out HF.out hfw

end Go.Proofs.Ytpelpmhopmefoaa
