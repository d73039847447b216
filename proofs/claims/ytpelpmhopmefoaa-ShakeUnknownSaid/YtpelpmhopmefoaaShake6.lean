/-
Walks of package shake: one message.
-/
import Derived.Test.YtpelpmhopmefoaaShake5
namespace Go.Proofs.Ytpelpmhopmefoaa
open Go.RowKit Go.Cof
set_option maxRecDepth 100000
set_option linter.unusedSimpArgs false

/-- What one message, or Feed, leaves. -/
def FedDone (h : Nat) (r : List UInt8 × Nat × Sh) (w : World) (e : Ending) (w' : World) : Prop :=
  ∃ v, e = .returned (.tuple #[v, .int .i64 r.2.1]) ∧ Sl w' 5 1 v r.1.length (bv r.1) ∧ (∀ g, v.ownBlock = some g → w.heap.size ≤ g) ∧ ShAt w' h r.2.2 ∧ Fr (fun k => k = h) w w'

theorem fed_nil {h : Nat} {S : Sh} {w w' : World} {n : Nat} (hs : ShAt w' h S) (hf : Fr (fun k => k = h) w w') : FedDone h ([], n, S) w (.returned (.tuple #[.slice none 0 0, .int .i64 n])) w' :=
  ⟨_, rfl, Sl.nil _ _ _, (fun g hg => by cases hg), hs, hf⟩

theorem both_set {w : World} {h : Nat} {S : Sh} (p : Nat) (b : Bool) (hs : ShAt w h S) : ShAt ((w.setCell ⟨h, 3, none⟩ (.int .i64 p)).setCell ⟨h, 5, none⟩ (.bool b)) h { S with phase := p, bare := b } := by
  have := heap_set (.bool b) (heap_set (.int .i64 p) hs (o := 3)) (o := 5)
  simpa [ShAt, Sh.cells] using this

set_option maxHeartbeats 1000000 in
theorem one_flags (h : Nat) (S : Sh) (v : Value) (l : List UInt8) (w : World) (hs : ShAt w h S) (hp : S.phase = 0) (hd : BV w v l) :
    Calls Try.prog 51 #[.pointer (some ⟨h, 0, none⟩), v] w (FedDone h (S.one l) w) := by
  by_cases h4 : l.length < 4
  · have E : Hid (S.one l = ([], 0, S)) := Lib.hid (by rw [Sh.one, if_pos hp, if_pos h4])
    obtain ⟨a, c, rfl⟩ := hd.form
    have c3 := hs.c3
    rw [hp] at c3
    have HS := Lib.hid hs
    clear hs hd hp
    go_enter Try.func51, Try.ntmps51
    go_wp2_with fail
    go_returns
    rw [E.out]
    exact fed_nil HS.out (Fr.refl _ _)
  · obtain ⟨n, hn⟩ : ∃ n, getN (l.take 4) = n := ⟨_, rfl⟩
    have E : Hid (S.one l = ([], 4, { S with phase := if n = 1 ∨ n = 3 then 1 else 3, bare := n == 3 })) := Lib.hid (by rw [Sh.one, if_pos hp, if_neg h4, hn])
    obtain ⟨a, c, rfl⟩ := hd.form
    have ht := hd.take 4 (by omega)
    have htl : (l.take 4).length = 4 := by rw [List.length_take]; omega
    have hc : l.length ≤ c := by
      obtain ⟨_, _, e, h1, _⟩ := id hd
      cases e
      exact h1
    have c3 := hs.c3
    have c5 := hs.c5
    have z3 := hs.z 3
    have z5 := hs.z 5
    rw [hp] at c3
    have hl := lt_of_heap hs
    have HS := Lib.hid hs
    have HN := Lib.hid hn
    have HT := Lib.hid ht
    have HTL := Lib.hid htl
    clear hs hd hp hn ht htl
    go_enter Try.func51, Try.ntmps51
    go_upto_region 5 with (go_at_call 70; go_loud (refine (get_ok _ (l.take 4) w HT.out (by rw [HTL.out]; decide) (by rw [HTL.out]; decide)).mono ?_; rintro e w' ⟨rfl, rfl⟩; rw [HN.out]))
    by_cases h1 : n = 1
    · have h1' : ((n : Int) == 1) = true := by simp [h1]
      have h3' : ((n : Int) == 3) = false := by simp [h1]
      have h3n : (n == 3) = false := by simp [h1]
      have e1 : (if n = 1 ∨ n = 3 then 1 else 3) = 1 := by simp [h1]
      rw [h3n, e1] at E
      clear h1 e1 h3n
      go_wp2_with fail
      go_returns
      rw [E.out]
      exact fed_nil (phase_set (S := { S with phase := 3, bare := false }) 1 (both_set 3 false HS.out) rfl) ((((Fr.refl (fun k => k = h) w).setB rfl 3 _).setB rfl 5 _).setB rfl 3 _)
    by_cases h3 : n = 3
    · have h1' : ((n : Int) == 1) = false := by simp [h3]
      have h3' : ((n : Int) == 3) = true := by simp [h3]
      have h3n : (n == 3) = true := by simp [h3]
      have e1 : (if n = 1 ∨ n = 3 then 1 else 3) = 1 := by simp [h3]
      rw [h3n, e1] at E
      clear h1 e1 h3n h3
      go_wp2_with fail
      go_returns
      rw [E.out]
      exact fed_nil (phase_set (S := { S with phase := 3, bare := true }) 1 (both_set 3 true HS.out) rfl) ((((Fr.refl (fun k => k = h) w).setB rfl 3 _).setB rfl 5 _).setB rfl 3 _)
    · have h1' : ((n : Int) == 1) = false := by simp; omega
      have h3' : ((n : Int) == 3) = false := by simp; omega
      have h3n : (n == 3) = false := by simp [h3]
      have e1 : (if n = 1 ∨ n = 3 then 1 else 3) = 3 := by simp [h1, h3]
      rw [h3n, e1] at E
      clear h1 e1 h3n h3
      go_wp2_with fail
      go_returns
      rw [E.out]
      exact fed_nil (both_set 3 false HS.out) (((Fr.refl (fun k => k = h) w).setB rfl 3 _).setB rfl 5 _)

end Go.Proofs.Ytpelpmhopmefoaa
