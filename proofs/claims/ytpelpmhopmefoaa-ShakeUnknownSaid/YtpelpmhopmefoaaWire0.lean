/-
Walks of package wire: what bytes begin with; a reader.
-/
import Derived.Test.YtpelpmhopmefoaaRef0
namespace Go.Proofs.Ytpelpmhopmefoaa
open Go.RowKit Go.Cof
set_option maxRecDepth 100000
set_option linter.unusedSimpArgs false

theorem BV.take {w : World} {a : Option Addr} {n c : Nat} {l : List UInt8} (h : BV w (.slice a n c) l) (m : Nat) (hm : m ≤ l.length) : BV w (.slice a m c) (l.take m) := by
  obtain ⟨a', c', e, h1, h2, h3, h4⟩ := h
  cases e
  refine ⟨a, c, by simp [hm], by simp; omega, by simp [bv_length], fun ha => ?_, fun b hb => ?_⟩
  · obtain ⟨e1, e2⟩ := h3 ha
    simp [e1, e2]
  · obtain ⟨p1, p2, p3⟩ := h4 b hb
    refine ⟨p1, p2, fun j u hu => p3 j u ?_⟩
    have hj : j < (l.take m).length := by
      have := (List.getElem?_eq_some_iff.1 hu).1
      simpa [bv] using this
    simp only [List.length_take] at hj
    simp only [bv, List.map_take] at hu ⊢
    rw [List.getElem?_take_of_lt (by omega)] at hu
    exact hu
theorem BV.drop {w : World} {g o n c : Nat} {l : List UInt8} (h : BV w (.slice (some ⟨g, o, none⟩) n c) l) (m : Nat) (hm : m ≤ l.length) : BV w (.slice (some ⟨g, o + m, none⟩) (l.length - m) (c - m)) (l.drop m) := by
  obtain ⟨a', c', e, h1, h2, h3, h4⟩ := h
  cases e
  refine ⟨some ⟨g, o + m, none⟩, c - m, by simp, by simp; omega, by simp [bv_length], (fun ha => by cases ha), (fun b hb => ?_)⟩
  obtain rfl := Option.some.inj hb
  obtain ⟨p1, p2, p3⟩ := h4 _ rfl
  refine ⟨rfl, p2, fun j u hu => ?_⟩
  have := p3 (m + j) u (by simpa [bv, List.map_drop] using hu)
  simpa [Nat.add_assoc] using this

def prefB (a b : List UInt8) : Bool := decide (b.length ≤ a.length) && (a.take b.length == b)

theorem extract_strB (a : List UInt8) (n : Nat) : ((strB a).extract 0 n).toList = a.take n := by
  rw [ByteArray.toList_eq]
  simp [strB]

theorem pref_lite (a b : List UInt8) (w : World) : Calls Try.prog 96 #[.string (strB a), .string (strB b)] w fun e w' => e = .returned (.bool (prefB a b)) ∧ w = w' := by
  go_enter Try.func96, Try.ntmps96
  go_wp2
  · have hle : b.length ≤ a.length := by assumption
    go_ret
    rw [extract_strB, toList_strB]
    exact ⟨by rw [show (strB b).size = b.length from rfl]; simp [prefB, hle], rfl⟩
  · have hle : ¬ b.length ≤ a.length := by assumption
    go_ret
    exact ⟨by simp [prefB, hle], rfl⟩
theorem pref_any (a b : List UInt8) (w : World) : Calls Try.prog 93 #[.string (strB a), .string (strB b)] w fun e w' => e = .returned (.bool (prefB a b)) ∧ w = w' := by
  go_enter Try.func93, Try.ntmps93
  go_wp2_with (go_at_call 96; refine (pref_lite a b w).mono ?_; rintro e w' ⟨rfl, rfl⟩)
  go_returns
  exact ⟨rfl, rfl⟩

/-- What 'begins' tells. -/
def beginsB (l s : List UInt8) : Bool := l.take (min l.length s.length) == s.take (min l.length s.length)

theorem begins_long {l s : List UInt8} (h : s.length < l.length) : beginsB l s = prefB s (l.take s.length) := by
  rw [beginsB, prefB, Nat.min_eq_right (Nat.le_of_lt h), List.length_take, Nat.min_eq_left (Nat.le_of_lt h), List.take_length]
  simp only [Nat.le_refl, decide_true, Bool.true_and]
  rw [Bool.eq_iff_iff]
  simp only [beq_iff_eq]
  exact eq_comm
theorem begins_short {l s : List UInt8} (h : ¬ s.length < l.length) : beginsB l s = prefB s l := by
  have h' : l.length ≤ s.length := by omega
  rw [beginsB, prefB, Nat.min_eq_left h', List.take_length]
  simp only [h', decide_true, Bool.true_and]
  rw [Bool.eq_iff_iff]
  simp only [beq_iff_eq]
  exact eq_comm

theorem begins_any (v : Value) (l s : List UInt8) (w : World) (h : BV w v l) (hs : s.length ≤ 1000000) : Calls Try.prog 80 #[v, .string (strB s)] w fun e w' => e = .returned (.bool (beginsB l s)) ∧ w = w' := by
  obtain ⟨a, c, rfl⟩ := h.form
  have hc : l.length ≤ c := by
    obtain ⟨_, _, e, h1, _⟩ := h
    cases e
    exact h1
  have hsz : (strB s).size = s.length := rfl
  by_cases hls : s.length < l.length
  · have k1 := (h.take s.length (by omega)).str (P := Try.prog) (src := 24) (dst := 9) Try.underlying24 Try.underlying5 Try.underlying9
    go_enter Try.func80, Try.ntmps80
    go_wp2_with (go_at_call 93; refine (pref_any s (l.take s.length) w).mono ?_; rintro e w' ⟨rfl, rfl⟩)
    go_ret
    exact ⟨by rw [begins_long hls]; rfl, rfl⟩
  · have k1 := h.str (P := Try.prog) (src := 24) (dst := 9) Try.underlying24 Try.underlying5 Try.underlying9
    go_enter Try.func80, Try.ntmps80
    go_wp2_with (go_at_call 93; refine (pref_any s l w).mono ?_; rintro e w' ⟨rfl, rfl⟩)
    go_ret
    exact ⟨by rw [begins_short hls]; rfl, rfl⟩

/-! ### A reader -/
def Reader (w : World) (r : Nat) (l : List UInt8) : Prop :=
  ∃ v, w.heap[r]? = some (.cells #[v] 125 (0, 0)) ∧ BV w v l ∧ ∀ g, v.ownBlock = some g → g < r

theorem Reader.keep {w w' : World} {r : Nat} {l : List UInt8} {S : Nat → Prop} (h : Reader w r l) (hf : Fr S w w') (hr : ¬ S r) (hn : ∀ v, w.heap[r]? = some (.cells #[v] 125 (0, 0)) → ∀ g, v.ownBlock = some g → ¬ S g) : Reader w' r l := by
  obtain ⟨v, h1, h2, h3⟩ := h
  exact ⟨v, hf.heap h1 hr, h2.keep hf (hn v h1), h3⟩
theorem Reader.keep0 {w w' : World} {r : Nat} {l : List UInt8} (h : Reader w r l) (hf : Fr (fun _ => False) w w') : Reader w' r l := h.keep hf id (fun _ _ _ _ => id)

theorem reader_drop {w : World} {r g o n c m : Nat} {l : List UInt8} (h1 : w.heap[r]? = some (.cells #[.slice (some ⟨g, o, none⟩) n c] 125 (0, 0))) (h2 : BV w (.slice (some ⟨g, o, none⟩) n c) l) (h3 : g < r) (hm : m ≤ l.length) (a : Option Addr)
    (ha : a = if c = m then some ⟨g, o, none⟩ else some ⟨g, o + m, none⟩) : Reader (w.setCell ⟨r, 0, none⟩ (.slice a (l.length - m) (c - m))) r (l.drop m) := by
  have hf : Fr (fun k => k = r) w (w.setCell ⟨r, 0, none⟩ (.slice a (l.length - m) (c - m))) := (Fr.refl (fun k => k = r) w).setB rfl 0 _
  have hh := heap_set (.slice a (l.length - m) (c - m)) h1 (o := 0)
  simp only [List.setIfInBounds_toArray, List.set_cons_zero] at hh
  have hn : n ≤ c := by
    obtain ⟨_, _, e, h1, _⟩ := id h2
    cases e
    exact h1
  have hn2 : n = l.length := by
    obtain ⟨_, _, e, h1, _⟩ := id h2
    cases e
    rfl
  refine ⟨_, hh, ?_, fun k hk => ?_⟩
  · by_cases hc : c = m
    · rw [if_pos hc] at ha
      subst ha
      have e1 : m = l.length := by omega
      have := (h2.take 0 (by omega)).keep hf (fun k hk e => by cases hk; exact Nat.ne_of_lt h3 e)
      obtain ⟨a', c', e, p1, p2, p3, p4⟩ := this
      cases e
      refine ⟨some ⟨g, o, none⟩, c - m, by simp, by simp; omega, by simp [e1, bv], (fun e => by cases e), fun b hb => ?_⟩
      obtain ⟨q1, q2, q3⟩ := p4 b hb
      refine ⟨q1, q2, fun j u hu => ?_⟩
      simp [e1, bv] at hu
    · rw [if_neg hc] at ha
      subst ha
      exact (h2.drop m hm).keep hf (fun k hk e => by cases hk; exact Nat.ne_of_lt h3 e)
  · have : k = g := by
      subst ha
      by_cases hc : c = m <;> simp [hc, Value.ownBlock] at hk <;> exact hk.symm
    omega

def Taken (r m : Nat) (l : List UInt8) (w : World) (e : Ending) (w' : World) : Prop :=
  e = .returned (.int .u64 (getN (l.take m))) ∧ Reader w' r (l.drop m) ∧ Fr (fun k => k = r) w w'

theorem take_any (r m : Nat) (l : List UInt8) (w : World) (h : Reader w r l) (h1 : 1 ≤ m) (h8 : m ≤ 8) (hm : m ≤ l.length) (hl : l.length ≤ 140737488351232) :
    Calls Try.prog 81 #[.pointer (some ⟨r, 0, none⟩), .int .i64 m] w (Taken r m l w) := by
  obtain ⟨v, h0, hb, hg⟩ := h
  rcases hb.cases with ⟨_, rfl⟩ | ⟨g, o, c, rfl, hc, hg1, hx⟩
  · simp at hm; omega
  have hgr := hg g rfl
  have q1 : w.cell? ⟨r, 0, none⟩ = some (.slice (some ⟨g, o, none⟩) l.length c) := cell_of h0
  have q2 : w.frozen? ⟨r, 0, none⟩ = false := frozen_in h0 0
  have hb2 := hb.take m hm
  have ht : Hid ((l.take m).length = m) := Lib.hid (by simp [hm])
  clear hx hg
  go_enter Try.func81, Try.ntmps81
  go_wp2_with (go_at_call 70; refine (get_ok _ (l.take m) w hb2 (by rw [ht.out]; exact h1) (by rw [ht.out]; exact h8)).mono ?_; rintro e w' ⟨rfl, rfl⟩)
  · have hcm : c = m := by assumption
    go_ret
    have := reader_drop h0 hb hgr hm (some ⟨g, o, none⟩) (by rw [if_pos hcm])
    rw [show c - m = 0 by omega] at this
    exact ⟨rfl, this, Fr.set1 _ _ _ _⟩
  · have hcm : ¬ c = m := by assumption
    go_ret
    exact ⟨rfl, reader_drop h0 hb hgr hm _ (by rw [if_neg hcm]), Fr.set1 _ _ _ _⟩

end Go.Proofs.Ytpelpmhopmefoaa
