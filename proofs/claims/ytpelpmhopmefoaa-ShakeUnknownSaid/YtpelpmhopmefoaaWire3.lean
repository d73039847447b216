/-
Walks of package wire: replies.
-/
import Derived.Test.YtpelpmhopmefoaaWire2
namespace Go.Proofs.Ytpelpmhopmefoaa
open Go.RowKit Go.Cof
set_option maxRecDepth 100000
set_option linter.unusedSimpArgs false

/-- A call's result is a fresh slice of these bytes. -/
def Makes (l : List UInt8) (w : World) (e : Ending) (w' : World) : Prop := ∃ v, e = .returned v ∧ FreshBytes w w' l v

theorem Makes.of {w w1 w' : World} {l : List UInt8} {v : Value} (h : FreshBytes w1 w' l v) (hf : Fr (fun _ => False) w w1) : Makes l w (.returned v) w' :=
  ⟨v, rfl, h.1, fun g hg => Nat.le_trans hf.size (h.2.1 g hg), hf.trans h.2.2 (fun _ _ => id)⟩

def ansHead : List UInt8 := [0, 3, 232, 137, 4, 85, 101, 169]
def optReplyB (opt rep : Nat) (d : List UInt8) : List UInt8 := ansHead ++ fieldB [(opt, 4), (rep, 4), (d.length, 4)] ++ d

theorem optionReply_any (opt rep : Nat) (v : Value) (d : List UInt8) (w : World) (ho : (opt : Int) ≤ 4294967295) (hr : (rep : Int) ≤ 4294967295) (hd : BV w v d) (hl : d.length ≤ 100000000000) :
    Calls Try.prog 74 #[.int .i64 opt, .int .i64 rep, v] w (Makes (optReplyB opt rep d) w) := by
  obtain ⟨a, c, rfl⟩ := hd.form
  have HD := Lib.hid hd
  clear hd
  have HO : Hid (∀ f ∈ [(opt, 4), (rep, 4), (d.length, 4)], f.1 < 256 ^ 8 ∧ 1 ≤ f.2 ∧ f.2 ≤ 8) := Lib.hid (by
    intro f hf
    simp only [List.mem_cons, List.not_mem_nil, or_false] at hf
    rcases hf with rfl | rfl | rfl <;> simp only <;> omega)
  go_enter Try.func74, Try.ntmps74
  go_wp2_with (go_at_call 79; go_loud (refine (message_any ansHead _ _ d [(opt, 4), (rep, 4), (d.length, 4)] _ (by decide) (HD.out.keep (S := fun _ => False) (by repeat' (first | with_reducible exact Fr.refl _ _ | with_reducible assumption | with_reducible refine Fr.drew ?_ | with_reducible refine Fr.alloc ?_ _)) (fun _ _ => id)) hl (Rd.block (heap_new w _) rfl) (by simp) (by simp) HO.out).mono ?_; rintro e w' ⟨v', rfl, hF⟩))
  go_returns
  exact Makes.of hF ((Fr.refl _ w).alloc _)

def greetHead : List UInt8 := [78, 66, 68, 77, 65, 71, 73, 67, 73, 72, 65, 86, 69, 79, 80, 84]
theorem greeting_any (w : World) : Calls Try.prog 54 #[] w (Makes (greetHead ++ fieldB [(3, 2)]) w) := by
  have HO : Hid (∀ f ∈ [((3 : Nat), 2)], f.1 < 256 ^ 8 ∧ 1 ≤ f.2 ∧ f.2 ≤ 8) := Lib.hid (by decide)
  go_enter Try.func54, Try.ntmps54
  go_wp2_with (go_at_call 79; go_loud (refine (message_any greetHead _ _ [] [(3, 2)] _ (by decide) (Rd.nil _ _) (by decide) (Rd.block (heap_new w _) rfl) (by simp) (by simp) HO.out).mono ?_; rintro e w' ⟨v', rfl, hF⟩))
  go_returns
  have := Makes.of hF ((Fr.refl _ w).alloc _)
  simpa using this

def simpleHead : List UInt8 := [103, 68, 102, 152]
def simpleB (n cookie : Nat) (d : List UInt8) : List UInt8 := simpleHead ++ fieldB [(n, 4), (cookie, 8)] ++ d
theorem simple_any (n cookie : Nat) (v : Value) (d : List UInt8) (w : World) (hn : (n : Int) ≤ 4294967295) (hk : (cookie : Int) ≤ 18446744073709551615) (hd : BV w v d) (hl : d.length ≤ 100000000000) :
    Calls Try.prog 85 #[.int .i64 n, .int .u64 cookie, v] w (Makes (simpleB n cookie d) w) := by
  obtain ⟨a, c, rfl⟩ := hd.form
  have HD := Lib.hid hd
  clear hd
  have HO : Hid (∀ f ∈ [(n, 4), (cookie, 8)], f.1 < 256 ^ 8 ∧ 1 ≤ f.2 ∧ f.2 ≤ 8) := Lib.hid (by
    intro f hf
    simp only [List.mem_cons, List.not_mem_nil, or_false] at hf
    rcases hf with rfl | rfl <;> simp only <;> omega)
  go_enter Try.func85, Try.ntmps85
  go_wp2_with (go_at_call 79; go_loud (refine (message_any simpleHead _ _ d [(n, 4), (cookie, 8)] _ (by decide) (HD.out.keep (S := fun _ => False) (by repeat' (first | with_reducible exact Fr.refl _ _ | with_reducible assumption | with_reducible refine Fr.drew ?_ | with_reducible refine Fr.alloc ?_ _)) (fun _ _ => id)) hl (Rd.block (heap_new w _) rfl) (by simp) (by simp) HO.out).mono ?_; rintro e w' ⟨v', rfl, hF⟩))
  go_returns
  exact Makes.of hF ((Fr.refl _ w).alloc _)

def chunkHead : List UInt8 := [102, 142, 51, 239]
def chunkB (last : Bool) (kind cookie : Nat) (d : List UInt8) : List UInt8 := chunkHead ++ fieldB [(last.toNat, 2), (kind, 2), (cookie, 8), (d.length, 4)] ++ d
theorem chunk_any (last : Bool) (kind cookie : Nat) (v : Value) (d : List UInt8) (w : World) (hn : (kind : Int) ≤ 65535) (hk : (cookie : Int) ≤ 18446744073709551615) (hd : BV w v d) (hl : d.length ≤ 100000000000) :
    Calls Try.prog 84 #[.bool last, .int .i64 kind, .int .u64 cookie, v] w (Makes (chunkB last kind cookie d) w) := by
  obtain ⟨a, c, rfl⟩ := hd.form
  have HD := Lib.hid hd
  clear hd
  have HO : Hid (∀ f ∈ [(last.toNat, 2), (kind, 2), (cookie, 8), (d.length, 4)], f.1 < 256 ^ 8 ∧ 1 ≤ f.2 ∧ f.2 ≤ 8) := Lib.hid (by
    have hb : last.toNat ≤ 1 := by cases last <;> decide
    intro f hf
    simp only [List.mem_cons, List.not_mem_nil, or_false] at hf
    rcases hf with rfl | rfl | rfl | rfl <;> simp only <;> omega)
  cases last
  all_goals
    go_enter Try.func84, Try.ntmps84
    go_wp2_with (go_at_call 79; go_loud (refine (message_any chunkHead _ _ d _ _ (by decide) (HD.out.keep (S := fun _ => False) (by repeat' (first | with_reducible exact Fr.refl _ _ | with_reducible assumption | with_reducible refine Fr.drew ?_ | with_reducible refine Fr.alloc ?_ _)) (fun _ _ => id)) hl ?_ ?_ ?_ HO.out).mono ?_))
    · exact Rd.block (heap_new w _) rfl
    · simp
    · simp
    rintro e w' ⟨v', rfl, hF⟩
    go_wp2_with fail
    go_returns
    exact Makes.of hF ((Fr.refl _ w).alloc _)

end Go.Proofs.Ytpelpmhopmefoaa
