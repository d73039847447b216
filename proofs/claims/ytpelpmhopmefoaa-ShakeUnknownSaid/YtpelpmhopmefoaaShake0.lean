/-
Walks of package shake: numbers; what is contained.
-/
import Derived.Test.YtpelpmhopmefoaaWire4
namespace Go.Proofs.Ytpelpmhopmefoaa
open Go.RowKit Go.Cof
set_option maxRecDepth 100000
set_option linter.unusedSimpArgs false

theorem nv_one (l : List Nat) : ∀ u ∈ nv l, u.oneCell' = true := by
  intro u hu
  obtain ⟨b, _, rfl⟩ := List.mem_map.1 hu
  rfl
theorem nv_get {l : List Nat} {k : Nat} (h : k < l.length) : (nv l)[k]? = some (.int .i64 (l.getD k 0 : Nat)) := by
  simp [nv, List.getD_eq_getElem?_getD, h]

def Found (l : List Nat) (x : Nat) (e : Ending) : Prop := ∃ r : Int, e = .returned (.int .i64 r) ∧ decide (0 ≤ r) = l.contains x
theorem found_yes {l : List Nat} {x k : Nat} (h : k < l.length) (hx : ((x : Int) == (l[k] : Int)) = true) : Found l x (.returned (.int .i64 k)) :=
  ⟨k, rfl, by
    have h2 : (x : Int) = (l[k] : Int) := by simpa using hx
    have : x = l[k] := by omega
    have hm : x ∈ l := this ▸ List.getElem_mem h
    simp [hm]⟩
theorem found_no {l : List Nat} {x k : Nat} (h : ¬ k < l.length) (hno : ∀ y ∈ l.take k, y ≠ x) : Found l x (.returned (.int .i64 (-1))) :=
  ⟨-1, rfl, by
    rw [List.take_of_length_le (by omega)] at hno
    have hm : ¬ x ∈ l := fun hm => hno x hm rfl
    simp [hm]⟩
theorem found_step {l : List Nat} {x k : Nat} (h : k < l.length) (hx : ((x : Int) == (l[k] : Int)) = false) (hno : ∀ y ∈ l.take k, y ≠ x) : ∀ y ∈ l.take (k + 1), y ≠ x := by
  have hne : ¬ x = l[k] := by
    have h2 : ¬ (x : Int) = (l[k] : Int) := by simpa using hx
    omega
  intro y hy
  rw [List.take_add_one, List.getElem?_eq_getElem h] at hy
  simp only [Option.toList_some, List.mem_append, List.mem_singleton] at hy
  rcases hy with hy | rfl
  · exact hno y hy
  · exact fun e => hne e.symm

theorem index_any (v : Value) (l : List Nat) (x : Nat) (w : World) (h : Rd w 1 v l.length (nv l)) (hl : l.length ≤ 1000000) : Calls Try.prog 97 #[v, .int .i64 x] w fun e w' => Found l x e ∧ w = w' := by
  obtain ⟨a, c, rfl, h1, h2, h3, h4⟩ := h
  cases a with
  | none =>
    obtain ⟨e1, rfl⟩ := h3 rfl
    obtain rfl : l = [] := List.eq_nil_of_length_eq_zero e1
    go_enter Try.func97, Try.ntmps97
    go_wp2
    refine wp_loop_rounds 1 ?_
    rw [rounds_succ]
    go_wp2
    go_returns
    exact ⟨found_no (k := 0) (by simp) (by simp), rfl⟩
  | some b =>
    obtain ⟨p1, p2, p3⟩ := h4 b rfl
    obtain ⟨g, o, s⟩ := b
    simp only at p1 p2 p3
    subst p1
    have P3 := Lib.hid p3
    clear p3 h4 h3 h2
    go_enter Try.func97, Try.ntmps97
    go_wp2
    go_loop [8] (fun i => ∃ k : Nat, k ≤ l.length ∧ i = .int .i64 k ∧ ∀ y ∈ l.take k, y ≠ x) (fun i => l.length - (intOf i).toNat)
    case atStart => exact ⟨0, Nat.zero_le _, rfl, by simp⟩
    case round =>
      obtain ⟨k, hk, rfl, hno⟩ := hrel
      have hcell : k < l.length → w.cell? ⟨g, o + k, none⟩ = some (.int .i64 (l.getD k 0 : Nat)) := fun h => P3.out k _ (nv_get h)
      have HNO := Lib.hid hno
      clear hno
      go_wp2
      · have hlt : k < l.length := by assumption
        have hx : ((x : Int) == (l[k] : Int)) = true := by assumption
        go_ret
        exact ⟨found_yes hlt hx, rfl⟩
      · have hlt : k < l.length := by assumption
        have hx : ((x : Int) == (l[k] : Int)) = false := by assumption
        go_round
        case rel => exact ⟨k + 1, by omega, by go_num, found_step hlt hx HNO.out⟩
        case measure => simp [intOf]; omega
      · have hlt : ¬ k < l.length := by assumption
        go_ret
        exact ⟨found_no hlt HNO.out, rfl⟩

theorem contains_any (v : Value) (l : List Nat) (x : Nat) (w : World) (h : Rd w 1 v l.length (nv l)) (hl : l.length ≤ 1000000) : Calls Try.prog 95 #[v, .int .i64 x] w fun e w' => e = .returned (.bool (l.contains x)) ∧ w = w' := by
  have H := Lib.hid h
  obtain ⟨a, c, rfl, _⟩ := h
  go_enter Try.func95, Try.ntmps95
  go_wp2_with (go_at_call 97; refine (index_any _ l x w H.out hl).mono ?_; rintro e w' ⟨⟨r, rfl, hr⟩, rfl⟩; have HR := Lib.hid hr; clear hr)
  go_ret
  exact ⟨by rw [← HR.out]; rfl, rfl⟩

end Go.Proofs.Ytpelpmhopmefoaa
