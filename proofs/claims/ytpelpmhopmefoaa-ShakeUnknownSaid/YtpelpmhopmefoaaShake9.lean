/-
Walks of package shake: New, Phase, Structured; and cofferdamlaw21: Fit, alive.
-/
import Derived.Lib.SlBytesConst
import Derived.Test.YtpelpmhopmefoaaShake8
namespace Go.Proofs.Ytpelpmhopmefoaa
open Go.RowKit Go.Cof
set_option maxRecDepth 100000
set_option linter.unusedSimpArgs false

theorem phase_any (h : Nat) (S : Sh) (w : World) (hs : ShAt w h S) : Calls Try.prog 24 #[.pointer (some ⟨h, 0, none⟩)] w fun e w' => e = .returned (.int .i64 S.phase) ∧ w = w' := by
  have c3 := hs.c3
  clear hs
  go_enter Try.func24, Try.ntmps24
  go_wp2
  go_returns
  exact ⟨rfl, rfl⟩
theorem phase_nobody (w : World) : Calls Try.prog 24 #[.pointer none] w fun e w' => e = .returned (.int .i64 3) ∧ w = w' := by
  go_enter Try.func24, Try.ntmps24
  go_wp2
  go_returns
  exact ⟨rfl, rfl⟩
theorem structured_any (h : Nat) (S : Sh) (w : World) (hs : ShAt w h S) : Calls Try.prog 26 #[.pointer (some ⟨h, 0, none⟩)] w fun e w' => e = .returned (.bool S.st) ∧ w = w' := by
  have c4 := hs.c4
  clear hs
  go_enter Try.func26, Try.ntmps26
  go_wp2
  go_returns
  exact ⟨rfl, rfl⟩
theorem structured_nobody (w : World) : Calls Try.prog 26 #[.pointer none] w fun e w' => e = .returned (.bool false) ∧ w = w' := by
  go_enter Try.func26, Try.ntmps26
  go_wp2
  go_returns
  exact ⟨rfl, rfl⟩

/-- A handshake that begins. -/
def Sh.new (n : List UInt8) (z : Nat) (r : Bool) : Sh := ⟨n, z, r, 0, false, false⟩
theorem Sh.new_fine {n : List UInt8} {z : Nat} {r : Bool} (hn : n.length ≤ 64) (hz : z ≤ 8192) : (Sh.new n z r).Fine := ⟨by show n.length ≤ 1000; omega, by show (z : Int) ≤ 1000000; omega, by show (0 : Nat) ≤ 3; omega⟩
theorem new_any (n : List UInt8) (z : Nat) (r : Bool) (w : World) : Calls Try.prog 19 #[.string (strB n), .int .i64 z, .bool r] w fun e w' => e = .returned (.pointer (some ⟨w.heap.size, 0, none⟩)) ∧ ShAt w' w.heap.size (Sh.new n z r) ∧ Fr (fun _ => False) w w' := by
  go_enter Try.func19, Try.ntmps19
  go_wp2
  go_returns
  exact ⟨rfl, heap_new w _, (Fr.refl _ w).alloc _⟩

def aliveB : List UInt8 := [0, 0, 0, 3, 73, 72, 65, 86, 69, 79, 80, 84, 0, 0, 0, 1, 0, 0, 0, 1, 118, 63]
theorem alive_feed : (Sh.new [118] 2 false).feed aliveB = ([0, 0, 0, 0, 0, 0, 0, 128, 1, 109], 21, ⟨[118], 2, false, 2, false, true⟩) := by
  have h1 : (Sh.new [118] 2 false).one aliveB = ([], 4, ⟨[118], 2, false, 1, false, true⟩) := by kernel_rfl
  have h2 : (⟨[118], 2, false, 1, false, true⟩ : Sh).one (aliveB.drop 4) = ([0, 0, 0, 0, 0, 0, 0, 128, 1, 109], 17, ⟨[118], 2, false, 2, false, true⟩) := by kernel_rfl
  rw [Sh.feed_go (by decide) (by rw [h1]; decide), h1]
  simp only
  rw [Sh.feed_go (by decide) (by rw [h2]; decide), h2]
  simp only
  rw [Sh.feed_over (by decide)]
  rfl

set_option maxHeartbeats 1000000 in
theorem alive21 (w : World) : Calls Try.prog 17 #[] w fun e w' => e = .returned (.bool true) ∧ Fr (fun _ => False) w w' := by
  have kc := fun (w : World) (C : Array Value) (n c : Nat) => Lib.run_convert_bytes_const (P := Try.prog) w 24 5 C n c Try.underlying24 Try.underlying5
  have L1 : ∀ (w1 : World) z, BV (w1.alloc (.cells #[.int .u8 0, .int .u8 0, .int .u8 0, .int .u8 3, .int .u8 73, .int .u8 72, .int .u8 65, .int .u8 86, .int .u8 69, .int .u8 79, .int .u8 80, .int .u8 84, .int .u8 0, .int .u8 0, .int .u8 0, .int .u8 1, .int .u8 0, .int .u8 0, .int .u8 0, .int .u8 1, .int .u8 118, .int .u8 63] 5 z)) (.slice (some ⟨w1.heap.size, 0, none⟩) 22 22) aliveB := fun w1 z => Rd.block (xs := bv aliveB) (heap_new w1 _) (by decide)
  have hfine : Hid (Sh.new [118] 2 false).Fine := Lib.hid (Sh.new_fine (by decide) (by decide))
  go_enter Try.func17, Try.ntmps17
  go_upto_region 5 with (first
    | (go_at_call 19; go_loud (refine (new_any [118] 2 false w).mono ?_; rintro e w1 ⟨rfl, hs1, hf1⟩; have HS1 := Lib.hid hs1; have HF1 := Lib.hid hf1; have hl1 := lt_of_heap hs1; clear hs1 hf1))
    | (go_at_call 20; go_loud (refine (feed_any w.heap.size (Sh.new [118] 2 false) _ aliveB _ (HS1.out.keep (K := fun _ => False) (by repeat' (first | with_reducible exact Fr.refl _ _ | with_reducible assumption | with_reducible refine Fr.drew ?_ | with_reducible refine Fr.alloc ?_ _)) id) hfine.out (L1 w1 _) (by decide) (fun g hg => by cases hg; exact Nat.ne_of_gt hl1)).mono ?_; rintro e w2 ⟨v2, he, hS2, hO2, hA2, hF2⟩; rw [alive_feed] at he hS2 hA2; simp only at he hS2 hA2; subst he; obtain ⟨a2, c2, rfl⟩ := hS2.form)))
  obtain ⟨g, o, c, e2, hc, hg, hx⟩ : ∃ g o c, Value.slice a2 10 c2 = .slice (some ⟨g, o, none⟩) 10 c ∧ 10 ≤ c ∧ g < w2.heap.size ∧ ∀ k, k < 10 → w2.cell? ⟨g, o + k, none⟩ = some (.int .u8 (([0, 0, 0, 0, 0, 0, 0, 128, 1, 109] : List UInt8).getD k 0).toNat) := by
    rcases (show BV w2 (.slice a2 10 c2) [0, 0, 0, 0, 0, 0, 0, 128, 1, 109] from hS2.rd).cases with ⟨_, h⟩ | ⟨g, o, c, e, h1, h2, h3⟩
    · cases h
    · exact ⟨g, o, c, e, h1, h2, h3⟩
  cases e2
  have x7 : w2.cell? ⟨g, o + 7, none⟩ = some (.int .u8 128) := hx 7 (by decide)
  have x8 : w2.cell? ⟨g, o + 8, none⟩ = some (.int .u8 1) := hx 8 (by decide)
  have x9 : w2.cell? ⟨g, o + 9, none⟩ = some (.int .u8 109) := hx 9 (by decide)
  have HA2 := Lib.hid hA2
  have HF2 := Lib.hid (Fr.of_below0 ((((HF1.out.mono (S' := fun k => k = w.heap.size) (fun _ _ => False.elim)).alloc _).trans hF2 (fun _ _ => id)).fresh (fun k hk e => by omega)))
  clear hx hA2 hF2 hO2 hS2
  go_wp2_with (go_at_call 24; go_loud (refine (phase_any _ _ _ HA2.out).mono ?_; rintro e w' ⟨rfl, rfl⟩))
  go_returns
  exact ⟨rfl, HF2.out⟩

theorem shakeNil_walk (v : Value) (w : World) : Calls Try.prog 6 #[v] w fun e w' => e = .returned (.bool true) ∧ Fr (fun _ => False) w w' := by
  go_enter Try.func6, Try.ntmps6
  go_wp2_with (first
    | (go_at_call 20; go_loud (refine (feed_nobody v w).mono ?_; rintro e w1 ⟨rfl, rfl⟩))
    | (go_at_call 17; go_loud (refine (alive21 w).mono ?_; rintro e w1 ⟨rfl, hf1⟩; have HF1 := Lib.hid hf1; clear hf1))
    | (go_at_call 24; go_loud (refine (phase_nobody _).mono ?_; rintro e w1 ⟨rfl, rfl⟩))
    | (go_at_call 26; go_loud (refine (structured_nobody _).mono ?_; rintro e w1 ⟨rfl, rfl⟩)))
  go_returns
  exact ⟨rfl, HF1.out⟩

end Go.Proofs.Ytpelpmhopmefoaa
