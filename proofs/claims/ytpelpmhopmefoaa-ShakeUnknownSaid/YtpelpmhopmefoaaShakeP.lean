/-
What a handshake says, as plain functions on bytes. No walk.
-/
import Derived.Test.YtpelpmhopmefoaaShake2
namespace Go.Proofs.Ytpelpmhopmefoaa
open Go.RowKit Go.Cof
set_option linter.unusedSimpArgs false

def repInvalid : Nat := 2147483651
def repUnsup : Nat := 2147483649
def repUnknown : Nat := 2147483654

/-- What is said to Info and Go: kinds, data. -/
def Sh.infoL (S : Sh) (d : List UInt8) : List (Nat × List UInt8) :=
  if (takeInf d).2.2 ≠ 0 then [(repInvalid, [])]
  else if (takeInf d).1 ≠ [] ∧ (takeInf d).1 ≠ S.name then [(repUnknown, [])]
  else if (takeInf d).2.1.contains 3 then [(3, numB [(0, 2)] ++ S.exportB), (3, numB [(3, 2), (64, 4), (64, 4), (1024, 4)]), (1, [])]
  else [(3, numB [(0, 2)] ++ S.exportB), (1, [])]

/-- Does Go end the handshake? -/
def Sh.goes (S : Sh) (d : List UInt8) : Bool := (takeInf d).2.2 == 0 && ((takeInf d).1 == [] || (takeInf d).1 == S.name)

/-- What is said to an option but ExportName. -/
def Sh.answerL (S : Sh) (k : Nat) (d : List UInt8) : List (Nat × List UInt8) × Sh :=
  if k = 2 then ([(1, [])], { S with phase := 3 })
  else if k = 6 then (S.infoL d, S)
  else if k = 7 then (S.infoL d, if S.goes d then { S with phase := 2 } else S)
  else if k = 3 then (if d ≠ [] then [(repInvalid, [])] else [(2, numB [(S.name.length, 4)] ++ S.name), (1, [])], S)
  else if k = 8 then (if d ≠ [] then ([(repInvalid, [])], S) else ([(1, [])], { S with st := true }))
  else ([(repUnsup, [])], S)

def saysB (k : Nat) (l : List (Nat × List UInt8)) : List UInt8 := l.flatMap fun r => optReplyB k r.1 r.2

def Sh.nameB (S : Sh) (n : List UInt8) : List UInt8 × Sh :=
  if n ≠ [] ∧ n ≠ S.name then ([], { S with phase := 3 })
  else (S.exportB ++ (if S.bare then [] else List.replicate 124 0), { S with phase := 2 })

def Sh.optB (S : Sh) (k : Nat) (d : List UInt8) : List UInt8 × Sh :=
  if k = 1 then S.nameB d else (saysB k (S.answerL k d).1, (S.answerL k d).2)

/-- One message. -/
def Sh.one (S : Sh) (l : List UInt8) : List UInt8 × Nat × Sh :=
  if S.phase = 0 then
    if l.length < 4 then ([], 0, S)
    else ([], 4, { S with phase := if getN (l.take 4) = 1 ∨ getN (l.take 4) = 3 then 1 else 3, bare := getN (l.take 4) == 3 })
  else if (takeOpt l).2.2.2 ≠ 0 then ([], l.length, { S with phase := 3 })
  else if (takeOpt l).2.2.1 = 0 then ([], 0, S)
  else ((S.optB (takeOpt l).1 (takeOpt l).2.1).1, (takeOpt l).2.2.1, (S.optB (takeOpt l).1 (takeOpt l).2.1).2)

theorem takeOpt_le (l : List UInt8) : (takeOpt l).2.2.1 ≤ l.length := by
  unfold takeOpt
  repeat' split
  all_goals (try simp only); omega
theorem takeOpt_small (l : List UInt8) : (takeOpt l).1 ≤ 4294967295 ∧ (takeOpt l).2.1.length ≤ 1024 := by
  have h1 := getN4 (l.drop 8)
  unfold takeOpt
  repeat' split
  all_goals simp only [List.length_nil, List.length_take]
  all_goals omega
theorem Sh.one_le (S : Sh) (l : List UInt8) : (S.one l).2.1 ≤ l.length := by
  have := takeOpt_le l
  unfold Sh.one
  repeat' split
  all_goals (try simp only); omega

/-- All messages that are there. -/
def Sh.feed (S : Sh) (l : List UInt8) : List UInt8 × Nat × Sh :=
  if S.phase < 2 then
    if _h : 0 < (S.one l).2.1 then
      ((S.one l).1 ++ (Sh.feed (S.one l).2.2 (l.drop (S.one l).2.1)).1, (S.one l).2.1 + (Sh.feed (S.one l).2.2 (l.drop (S.one l).2.1)).2.1, (Sh.feed (S.one l).2.2 (l.drop (S.one l).2.1)).2.2)
    else ((S.one l).1, 0, (S.one l).2.2)
  else ([], 0, S)
termination_by l.length
decreasing_by
  all_goals
    have := S.one_le l
    rw [List.length_drop]
    omega

theorem Sh.feed_over {S : Sh} {l : List UInt8} (h : ¬ S.phase < 2) : S.feed l = ([], 0, S) := by rw [Sh.feed, if_neg h]
theorem Sh.feed_stop {S : Sh} {l : List UInt8} (h : S.phase < 2) (h0 : (S.one l).2.1 = 0) : S.feed l = ((S.one l).1, 0, (S.one l).2.2) := by
  rw [Sh.feed, if_pos h, dif_neg (by omega)]
theorem Sh.feed_go {S : Sh} {l : List UInt8} (h : S.phase < 2) (h0 : 0 < (S.one l).2.1) : S.feed l = ((S.one l).1 ++ ((S.one l).2.2.feed (l.drop (S.one l).2.1)).1, (S.one l).2.1 + ((S.one l).2.2.feed (l.drop (S.one l).2.1)).2.1, ((S.one l).2.2.feed (l.drop (S.one l).2.1)).2.2) := by
  conv => lhs; rw [Sh.feed, if_pos h, dif_pos h0]

/-- What never turns, and bounds. -/
structure Sh.Fine (S : Sh) : Prop where
  name : S.name.length ≤ 1000
  sectors : (S.sectors : Int) ≤ 1000000
  phase : S.phase ≤ 3

theorem optReplyB_len (k r : Nat) (d : List UInt8) : (optReplyB k r d).length = 20 + d.length := by
  simp [optReplyB, ansHead, fieldB, putB_length]
  omega
theorem Sh.exportB_len (S : Sh) : S.exportB.length = 10 := by simp [Sh.exportB, numB, putB_length]
theorem Sh.infoL_len (S : Sh) (d : List UInt8) (k : Nat) : (saysB k (S.infoL d)).length ≤ 86 := by
  have := S.exportB_len
  unfold Sh.infoL
  repeat' split
  all_goals simp [saysB, optReplyB_len, numB, putB_length, this]
theorem Sh.optB_len {S : Sh} (hf : S.Fine) (k : Nat) (d : List UInt8) : (S.optB k d).1.length ≤ 2000 := by
  have h1 := hf.name
  have := S.exportB_len
  have h2 := S.infoL_len d
  unfold Sh.optB Sh.nameB Sh.answerL
  repeat' split
  all_goals first
    | exact Nat.le_trans (h2 k) (by decide)
    | (simp [saysB, optReplyB_len, numB, putB_length, this]; done)
    | (simp [saysB, optReplyB_len, numB, putB_length, this]; omega)
theorem Sh.optB_fine {S : Sh} (hf : S.Fine) (k : Nat) (d : List UInt8) : (S.optB k d).2.Fine := by
  obtain ⟨h1, h2, h3⟩ := hf
  unfold Sh.optB Sh.nameB Sh.answerL
  repeat' split
  all_goals exact ⟨h1, h2, by first | exact h3 | (simp only; omega)⟩
theorem Sh.one_fine {S : Sh} (hf : S.Fine) (l : List UInt8) : (S.one l).2.2.Fine := by
  have h0 := fun k d => S.optB_fine hf k d
  obtain ⟨h1, h2, h3⟩ := hf
  unfold Sh.one
  repeat' split
  all_goals first | exact h0 _ _ | exact ⟨h1, h2, by first | exact h3 | (simp only; omega)⟩
theorem takeOpt_pos {l : List UInt8} (h : (takeOpt l).2.2.1 ≠ 0) : 16 ≤ (takeOpt l).2.2.1 := by
  revert h
  unfold takeOpt
  repeat' split
  all_goals (try simp only); omega
theorem Sh.one_len {S : Sh} (hf : S.Fine) (l : List UInt8) : (S.one l).1.length ≤ 200 * (S.one l).2.1 := by
  have h0 := fun k d => Sh.optB_len (S := S) hf k d
  have h1 := @takeOpt_pos l
  unfold Sh.one
  repeat' split
  all_goals (try simp only [List.length_nil]); try omega
  have := h0 (takeOpt l).1 (takeOpt l).2.1
  have := h1 (by assumption)
  omega

end Go.Proofs.Ytpelpmhopmefoaa
