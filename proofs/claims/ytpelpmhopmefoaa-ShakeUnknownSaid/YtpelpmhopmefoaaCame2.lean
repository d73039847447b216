/-
What comes in: options. No walk.
-/
import Derived.Test.YtpelpmhopmefoaaCame1
namespace Go.Proofs.Ytpelpmhopmefoaa
open Go.RowKit Go.Cof Go.ChangeShapes Go.WideShapes Go.ChangeAt Go.Joins Go.Deep
set_option maxRecDepth 100000
set_option linter.unusedSimpArgs false

theorem BW.take {w : World} {a : Option Addr} {n c : Nat} {l : List UInt8} (h : BW w (.slice a n c) l) (m : Nat) (hm : m ≤ l.length) : BW w (.slice a m c) (l.take m) := by
  rcases h with h | ⟨rfl, a', e⟩
  · exact .inl (BV.take h m hm)
  · cases e
    have : m = 0 := by simpa using hm
    subst this
    exact .inr ⟨rfl, _, rfl⟩
theorem BW.len {w : World} {a : Option Addr} {n c : Nat} {l : List UInt8} (h : BW w (.slice a n c) l) : n = l.length ∧ n ≤ c := by
  rcases h with h | ⟨rfl, a', e⟩
  · exact h.len
  · cases e
    exact ⟨rfl, Nat.le_refl _⟩

/-- Options as cells: kind, data. -/
def ocells (os : List (Int × Value × List UInt8)) : List Value := os.flatMap fun r => [.int .i64 r.1, r.2.1]
theorem ocells_len (os : List (Int × Value × List UInt8)) : (ocells os).length = os.length * 2 := by
  induction os with
  | nil => rfl
  | cons r rs ih => rw [show ocells (r :: rs) = [.int .i64 r.1, r.2.1] ++ ocells rs from rfl, List.length_append, ih, List.length_cons]; simp; omega
theorem ocells_get0 {rs : List (Int × Value × List UInt8)} {i : Nat} {k : Int} {v : Value} {d : List UInt8} (h : rs[i]? = some (k, v, d)) : (ocells rs)[i * 2]? = some (.int .i64 k) := by
  induction rs generalizing i with
  | nil => simp at h
  | cons r rs ih =>
    cases i with
    | zero => simp at h; subst h; rfl
    | succ i =>
      have := ih (i := i) (by simpa using h)
      rw [show (i + 1) * 2 = i * 2 + 2 by omega]
      simpa [ocells] using this
theorem ocells_get1 {rs : List (Int × Value × List UInt8)} {i : Nat} {k : Int} {v : Value} {d : List UInt8} (h : rs[i]? = some (k, v, d)) : (ocells rs)[i * 2 + 1]? = some v := by
  induction rs generalizing i with
  | nil => simp at h
  | cons r rs ih =>
    cases i with
    | zero => simp at h; subst h; rfl
    | succ i =>
      have := ih (i := i) (by simpa using h)
      rw [show (i + 1) * 2 + 1 = i * 2 + 1 + 2 by omega]
      simpa [ocells] using this

/-- v reads as these options. -/
def OV (w : World) (v : Value) (os : List (Int × Value × List UInt8)) : Prop :=
  (∃ a c, v = .slice a os.length c ∧ (os ≠ [] → ∃ g o, a = some ⟨g, o, none⟩ ∧ g < w.heap.size ∧ ∀ j u, (ocells os)[j]? = some u → w.cell? ⟨g, o + j, none⟩ = some u)) ∧
    ∀ r ∈ os, -9223372036854775808 ≤ r.1 ∧ r.1 ≤ 9223372036854775807 ∧ BW w r.2.1 r.2.2 ∧ r.2.2.length ≤ maxLen

theorem Try.cells51 : Try.prog.cellsOf 51 = 2 := by kernel_rfl
section
variable {H : Type} {enc : TypeId × Value → H} {w : World} {held : Bool}
theorem list_of_lt {α : Type} {n : Nat} {p : Nat → α → Prop} (h : ∀ i, i < n → ∃ x, p i x) : ∃ l : List α, l.length = n ∧ ∀ i x, l[i]? = some x → p i x := by
  induction n with
  | zero => exact ⟨[], rfl, fun i x hx => by simp at hx⟩
  | succ n ih =>
    obtain ⟨l, hl, hp⟩ := ih (fun i hi => h i (by omega))
    obtain ⟨y, hy⟩ := h n (by omega)
    refine ⟨l ++ [y], by simp [hl], fun i x hx => ?_⟩
    by_cases hi : i < n
    · rw [List.getElem?_append_left (by omega)] at hx
      exact hp i x hx
    · rw [List.getElem?_append_right (by omega)] at hx
      have : i - l.length = 0 := by
        have := (List.getElem?_eq_some_iff.1 hx).1
        simp at this
        omega
      rw [this] at hx
      simp at hx
      subst hx
      rw [show i = n by omega]
      exact hy

theorem came_options {base : Nat} {v : Value} {d : DataW H} {p : List MemPlace} (hv : Value.okWide Try.prog w .any base 47 v) (h : DataW.Trod enc Try.prog w 0 (fun _ => true) held 47 v d p) : ∃ os, OV w v os ∧ os.length ≤ maxLen := by
  obtain ⟨a, n, c, rfl⟩ := okWide_slice Try.underlying47 hv
  obtain ⟨fuel, hf⟩ := h
  rcases open_slice Try.underlying47 hf with ⟨hcs, _⟩ | ⟨a', len, cap, m, fn, D, Pl, hcs, _, hl, hm, hmm, _, hx⟩
  · simp only [Value.cells, List.cons.injEq, Value.slice.injEq, and_true] at hcs
    obtain ⟨rfl, rfl, rfl⟩ := hcs
    exact ⟨[], ⟨⟨none, 0, rfl, fun e => absurd rfl e⟩, by simp⟩, by simp⟩
  · simp only [Value.cells, List.cons.injEq, Value.slice.injEq, and_true] at hcs
    obtain ⟨rfl, rfl, rfl⟩ := hcs
    simp only [if_true] at hmm
    subst hmm
    rw [Try.cells51] at hx
    have each : ∀ i, i < n → ∃ r : Int × Value × List UInt8, w.cell? (a'.add (i * 2)) = some (.int .i64 r.1) ∧ w.cell? ((a'.add (i * 2)).add 1) = some r.2.1 ∧ -9223372036854775808 ≤ r.1 ∧ r.1 ≤ 9223372036854775807 ∧ BW w r.2.1 r.2.2 ∧ r.2.2.length ≤ maxLen := by
      intro i hi
      obtain ⟨cs', h1, h2⟩ := hx i (by omega)
      obtain ⟨y0, y1, k, _, hlen, h3, h4⟩ := trod_struct2 Try.underlying51 h2
      obtain ⟨_, hl2, hc2⟩ := World.cells?_some h1
      match cs', hl2 with
      | [x0, x1], _ =>
        have c0 : Try.prog.cellsOf 3 = 1 := by kernel_rfl
        have c1 : Try.prog.cellsOf 24 = 1 := by kernel_rfl
        simp only [c0, c1, List.drop_zero, List.take_succ_cons, List.take_zero, List.drop_succ_cons] at h3 h4
        obtain ⟨z, e0, _, hz⟩ := DataW.trod_int Try.underlying3 h3
        obtain ⟨l, al, cl, e1, hll, hbw, _, _⟩ := trod_bytes Try.underlying24 Try.underlying5 (by kernel_rfl) h4
        simp only [List.cons.injEq, and_true] at e0 e1
        subst e0 e1
        have hb := bounds_i64 hz
        refine ⟨(z, .slice al l.length cl, l), ?_, ?_, by omega, by omega, hbw, hll⟩
        · have := hc2 0 (by omega)
          simpa [Addr.add] using this
        · have := hc2 1 (by omega)
          simpa using this
    obtain ⟨os, hos, hp⟩ := list_of_lt each
    refine ⟨os, ⟨⟨some a', m, by rw [hos], fun hne => ?_⟩, fun r hr => ?_⟩, by rw [hos]; omega⟩
    · have hpos : 0 < n := by
        rw [← hos]
        exact List.length_pos_iff.2 hne
      have h0 := hp 0 (os.getD 0 default) (by rw [List.getD_eq_getElem?_getD, List.getElem?_eq_getElem (by omega)]; rfl)
      have hsp := spot_of_cell h0.1
      have hsp' : a'.spot = none ∧ a'.block < w.heap.size := by simpa [Addr.add] using hsp
      obtain ⟨g, o, s⟩ := a'
      simp only at hsp'
      obtain ⟨rfl, hg⟩ := hsp'
      refine ⟨g, o, rfl, hg, fun j u hu => ?_⟩
      have hj : j < os.length * 2 := by
        have := (List.getElem?_eq_some_iff.1 hu).1
        rwa [ocells_len] at this
      have hi : j / 2 < os.length := by omega
      have hr := hp (j / 2) _ (List.getElem?_eq_getElem hi)
      have hg0 := ocells_get0 (rs := os) (i := j / 2) (k := os[j / 2].1) (v := os[j / 2].2.1) (d := os[j / 2].2.2) (List.getElem?_eq_getElem hi)
      have hg1 := ocells_get1 (rs := os) (i := j / 2) (k := os[j / 2].1) (v := os[j / 2].2.1) (d := os[j / 2].2.2) (List.getElem?_eq_getElem hi)
      rcases Nat.mod_two_eq_zero_or_one j with hm2 | hm2
      · have e : j = j / 2 * 2 := by omega
        rw [e] at hu ⊢
        rw [hg0] at hu
        cases hu
        have := hr.1
        rw [Addr.add_lit] at this
        exact this
      · have e : j = j / 2 * 2 + 1 := by omega
        rw [e] at hu ⊢
        rw [hg1] at hu
        cases hu
        have := hr.2.1
        rw [Addr.add_lit, Addr.add_lit] at this
        rw [← Nat.add_assoc]
        exact this
    · obtain ⟨i, hi⟩ := List.getElem?_of_mem hr
      exact (hp i r hi).2.2
end
end Go.Proofs.Ytpelpmhopmefoaa
