/-
Walks of package wire: bytes cloned; options taken.
-/
import Derived.Test.YtpelpmhopmefoaaWire0
namespace Go.Proofs.Ytpelpmhopmefoaa
open Go.RowKit Go.Cof
set_option maxRecDepth 100000
set_option linter.unusedSimpArgs false

/-! ### bytes.Clone -/
def Cloned (w : World) (v : Value) (l : List UInt8) (e : Ending) (w' : World) : Prop :=
  ∃ b' cap', e = .returned (.slice b' l.length cap') ∧ FreshBytes w w' l (.slice b' l.length cap') ∧ (b' = none ↔ v = .slice none 0 0)

theorem clone_nil (w : World) : Calls Try.prog 58 #[.slice none 0 0] w fun e w' => e = .returned (.slice none 0 0) ∧ w = w' := by
  go_enter Try.func58, Try.ntmps58
  go_wp2
  go_returns
  exact ⟨rfl, rfl⟩

theorem cloned_mk {w w' : World} {a : Option Addr} {n cap : Nat} {l : List UInt8} {v' : Value} {b : Addr}
    (h : Appended (w.alloc (.cells #[] 5)) w' 5 1 (.slice (some ⟨w.heap.size, 0, none⟩) 0 0) v' l.length (bv l)) (ha : a = some b) : Cloned w (.slice a n cap) l (.returned v') w' := by
  subst ha
  have hf := ((Fr.refl (fun k => w.heap.size ≤ k) w).alloc (.cells #[] 5)).trans h.fr (fun j hj e => by cases e; exact Nat.le_refl _)
  obtain ⟨b', cap', rfl⟩ := h.sl.form
  refine ⟨b', cap', rfl, ⟨h.sl, fun g hg => ?_, Fr.of_below0 (hf.fresh (fun k hk => by omega))⟩, ⟨fun e => ?_, fun e => by cases e⟩⟩
  · rcases h.own g hg with e | e
    · cases e; exact Nat.le_refl _
    · simp at e; omega
  · subst e
    rcases h.sl.2 with e | ⟨_, _, _, _, _, e, _⟩
    · exact absurd (h.nil.1 e.1).1 (by simp)
    · cases e

theorem clone_some (a : Addr) (n cap : Nat) (l : List UInt8) (w : World) (h : BV w (.slice (some a) n cap) l) (hl : l.length ≤ 140737488351232) :
    Calls Try.prog 58 #[.slice (some a) n cap] w (Cloned w (.slice (some a) n cap) l) := by
  obtain ⟨i0, hi, hz0, hz1, hz2⟩ := info_parts Try.info5
  have hm : l.length ≤ maxLen := by unfold maxLen; omega
  go_enter Try.func58, Try.ntmps58
  go_wp2_with (at_builtin; refine wpList_append _ rfl (.tmp 5) (.tmp 6) 24 24 rfl 5 i0 (.int .u8 0) 1 1 Try.underlying24 hi hz0 hz1 hz2 rfl (by decide) (.slice (some ⟨w.heap.size, 0, none⟩) 0 0) 0 [] rfl ?c1 (.slice (some a) n cap) l.length (bv l) rfl ?c2 ?c3 ?c4 ?c5)
  case c1 => exact Sl.empty w 5 1
  case c2 => exact (h.keep ((Fr.refl (fun _ => False) w).alloc _) (fun _ _ => id)).src Try.underlying24 (bv_one l)
  case c3 => omega
  case c4 => omega
  case c5 =>
    intro v' w' hap
    go_wp2
    go_returns
    exact cloned_mk hap rfl

theorem clone_any (v : Value) (l : List UInt8) (w : World) (h : BV w v l) (hl : l.length ≤ 140737488351232) : Calls Try.prog 58 #[v] w (Cloned w v l) := by
  have h0 := h
  obtain ⟨a, cap, rfl, h1, h2, h3, h4⟩ := h
  cases a with
  | some a => exact clone_some a _ cap l w h0 hl
  | none =>
    obtain ⟨e1, rfl⟩ := h3 rfl
    obtain rfl : l = [] := List.eq_nil_of_length_eq_zero e1
    refine (clone_nil w).mono ?_
    rintro e w' ⟨rfl, rfl⟩
    exact ⟨none, 0, rfl, ⟨Sl.nil _ _ _, (fun g hg => by cases hg), Fr.refl _ _⟩, by simp⟩

/-! ### TakeOption -/
def haveOpt : List UInt8 := [73, 72, 65, 86, 69, 79, 80, 84]

/-- What TakeOption tells: the kind, the data, how many bytes, the error. -/
def takeOpt (l : List UInt8) : Nat × List UInt8 × Nat × Int :=
  if beginsB l haveOpt = false then (0, [], 0, 201)
  else if l.length < 16 then (0, [], 0, 0)
  else if 1024 < getN ((l.drop 12).take 4) then (0, [], 0, 201)
  else if l.length < 16 + getN ((l.drop 12).take 4) then (0, [], 0, 0)
  else (getN ((l.drop 8).take 4), (l.drop 16).take (getN ((l.drop 12).take 4)), 16 + getN ((l.drop 12).take 4), 0)

def TookOpt (l : List UInt8) (w : World) (e : Ending) (w' : World) : Prop :=
  ∃ v, e = .returned (.tuple #[.agg #[.int .i64 (takeOpt l).1, v], .int .i64 (takeOpt l).2.2.1, .int .i64 (takeOpt l).2.2.2]) ∧ FreshBytes w w' (takeOpt l).2.1 v

theorem getN4 (l : List UInt8) : (getN (l.take 4) : Int) ≤ 4294967295 := by
  have h := getN_lt (l.take 4)
  have : 256 ^ (l.take 4).length ≤ 256 ^ 4 := Nat.pow_le_pow_right (by decide) (by rw [List.length_take]; omega)
  omega

theorem takeOption_no (v : Value) (l : List UInt8) (w : World) (h : BV w v l) (hb : beginsB l haveOpt = false) : Calls Try.prog 71 #[v] w (TookOpt l w) := by
  obtain ⟨a, c, rfl⟩ := h.form
  have HB := Lib.hid h
  have E : Hid (takeOpt l = (0, [], 0, 201)) := Lib.hid (by simp [takeOpt, hb])
  clear h
  go_enter Try.func71, Try.ntmps71
  go_wp2_with (go_at_call 80; refine (begins_any _ l haveOpt _ (HB.out.keep (S := fun _ => False) (by repeat' (first | with_reducible exact Fr.refl _ _ | with_reducible assumption | with_reducible refine Fr.drew ?_ | with_reducible refine Fr.alloc ?_ _)) (fun _ _ => id)) (by decide)).mono ?_; rintro e w' ⟨rfl, rfl⟩)
  go_returns
  unfold TookOpt
  rw [E.out]
  exact ⟨_, rfl, Sl.nil _ _ _, (fun g hg => by cases hg), (Fr.refl _ w).alloc _⟩

theorem takeOption_few (v : Value) (l : List UInt8) (w : World) (h : BV w v l) (hb : beginsB l haveOpt = true) (hl : l.length < 16) : Calls Try.prog 71 #[v] w (TookOpt l w) := by
  obtain ⟨a, c, rfl⟩ := h.form
  have HB := Lib.hid h
  have E : Hid (takeOpt l = (0, [], 0, 0)) := Lib.hid (by simp [takeOpt, hb, hl])
  clear h
  go_enter Try.func71, Try.ntmps71
  go_wp2_with (go_at_call 80; refine (begins_any _ l haveOpt _ (HB.out.keep (S := fun _ => False) (by repeat' (first | with_reducible exact Fr.refl _ _ | with_reducible assumption | with_reducible refine Fr.drew ?_ | with_reducible refine Fr.alloc ?_ _)) (fun _ _ => id)) (by decide)).mono ?_; rintro e w' ⟨rfl, rfl⟩)
  go_returns
  unfold TookOpt
  rw [E.out]
  exact ⟨_, rfl, Sl.nil _ _ _, (fun g hg => by cases hg), (Fr.refl _ w).alloc _⟩

theorem reader_new {w : World} {v : Value} {l : List UInt8} (h : BV w v l) : Reader (w.alloc (.cells #[v] 125)) w.heap.size l :=
  ⟨v, heap_new w _, h.keep ((Fr.refl (fun _ => False) w).alloc _) (fun _ _ => id), fun g hg => h.lt g hg⟩

theorem Reader.val {w : World} {r : Nat} {l : List UInt8} (h : Reader w r l) : ∃ a c, w.heap[r]? = some (.cells #[.slice a l.length c] 125 (0, 0)) ∧ BV w (.slice a l.length c) l := by
  obtain ⟨v, h1, h2, h3⟩ := h
  obtain ⟨a, c, rfl⟩ := h2.form
  exact ⟨a, c, h1, h2⟩

theorem cell_set2 {w : World} {B : Nat} {x : Value} (h : w.cell? ⟨B, 0, none⟩ = some x) : ∀ u, (w.setCell ⟨B, 0, none⟩ u).cell? ⟨B, 0, none⟩ = some u := fun _ => World.cell?_setCell_same _ _ _ h
theorem cell_set3 {w : World} {B : Nat} {x y : Value} (h : w.cell? ⟨B, 1, none⟩ = some x) (_h0 : w.cell? ⟨B, 0, none⟩ = some y) : ∀ u u', ((w.setCell ⟨B, 0, none⟩ u).setCell ⟨B, 1, none⟩ u').cell? ⟨B, 1, none⟩ = some u' := fun _ _ =>
  World.cell?_setCell_same _ _ _ (by rw [World.cell?_setCell_other _ _ _ _ (by simp)]; exact h)
theorem takeOpt_eq {l : List UInt8} {m k : Nat} (hb : beginsB l haveOpt = true) (hl : 16 ≤ l.length) (hm : getN ((l.drop 12).take 4) = m) (hk : getN ((l.drop 8).take 4) = k) :
    takeOpt l = if 1024 < m then (0, [], 0, 201) else if l.length < 16 + m then (0, [], 0, 0) else (k, (l.drop 16).take m, 16 + m, 0) := by
  unfold takeOpt
  rw [hm, hk, hb, if_neg (by simp), if_neg (by omega)]
theorem took_fr {w w2 : World} {u u' : Value} (h : Fr (fun k => k = w.heap.size + 1) w w2) : Fr (fun _ => False) w ((w2.setCell ⟨w.heap.size, 0, none⟩ u).setCell ⟨w.heap.size, 1, none⟩ u') :=
  (((h.mono (S' := fun k => w.heap.size ≤ k) (fun j _ e => by omega)).setB (Nat.le_refl _) 0 u).setB (Nat.le_refl _) 1 u').fresh (fun k hk e => by omega) |> Fr.of_below0

theorem took_end {w w2 w3 : World} {l : List UInt8} {m c : Nat} {b : Option Addr} {u u' : Value} (_hl : l.length = m) (hz : w.heap.size < w2.heap.size) (h : FreshBytes w2 w3 l (.slice b m c)) (hf : Fr (fun k => k = w.heap.size + 1) w w2) :
    FreshBytes w ((w3.setCell ⟨w.heap.size, 0, none⟩ u).setCell ⟨w.heap.size, 1, none⟩ u') l (.slice b m c) := by
  obtain ⟨h1, h2, h3⟩ := h
  have s := hf.size
  refine ⟨h1.keep (((Fr.refl (fun k => k = w.heap.size) w3).setB rfl 0 u).setB rfl 1 u') (fun g hg e => ?_), fun g hg => by have := h2 g hg; omega, took_fr (hf.trans h3 (fun _ _ => False.elim))⟩
  have := h2 g hg
  omega

set_option maxHeartbeats 1000000 in
theorem takeOption_many (v : Value) (l : List UInt8) (w : World) (h : BV w v l) (hb : beginsB l haveOpt = true) (hl : 16 ≤ l.length) (hm : l.length ≤ 140737488351232) : Calls Try.prog 71 #[v] w (TookOpt l w) := by
  rcases h.cases with ⟨_, rfl⟩ | ⟨g, o, c, rfl, hc, hg, hx⟩
  · simp at hl
  have HB := Lib.hid h
  clear h hx
  obtain ⟨m, hmm⟩ : ∃ m, getN ((l.drop 12).take 4) = m := ⟨_, rfl⟩
  obtain ⟨k, hk⟩ : ∃ k, getN ((l.drop 8).take 4) = k := ⟨_, rfl⟩
  have hm4 := getN4 (l.drop 12)
  have hk4 := getN4 (l.drop 8)
  rw [hmm] at hm4
  rw [hk] at hk4
  have HM := Lib.hid hmm
  have HK := Lib.hid hk
  clear hmm hk
  go_enter Try.func71, Try.ntmps71
  go_wp2_with (go_at_call 80; refine (begins_any _ l haveOpt _ (HB.out.keep (S := fun _ => False) (by repeat' (first | with_reducible exact Fr.refl _ _ | with_reducible assumption | with_reducible refine Fr.drew ?_ | with_reducible refine Fr.alloc ?_ _)) (fun _ _ => id)) (by decide)).mono ?_; rintro e w' ⟨rfl, rfl⟩)
  have R0 : Reader ((w.alloc (.cells #[.int .i64 0, .slice none 0 0] 51)).alloc (.cells #[.slice (some ⟨g, o + 8, none⟩) (l.length - 8) (c - 8)] 125)) (w.heap.size + 1) (l.drop 8) := by
    simpa using reader_new (BV.drop (HB.out.keep ((Fr.refl (fun _ => False) w).alloc (.cells #[.int .i64 0, .slice none 0 0] 51)) (fun _ _ => id)) 8 (by omega))
  have F0 : Fr (fun _ => False) w ((w.alloc (.cells #[.int .i64 0, .slice none 0 0] 51)).alloc (.cells #[.slice (some ⟨g, o + 8, none⟩) (l.length - 8) (c - 8)] 125)) := ((Fr.refl _ w).alloc _).alloc _
  have Z0 : ((w.alloc (.cells #[.int .i64 0, .slice none 0 0] 51)).alloc (.cells #[.slice (some ⟨g, o + 8, none⟩) (l.length - 8) (c - 8)] 125)).heap[w.heap.size]? = some (.cells #[.int .i64 0, .slice none 0 0] 51 (0, 0)) := heap_old _ _ (heap_new w _)
  generalize ((w.alloc (.cells #[.int .i64 0, .slice none 0 0] 51)).alloc (.cells #[.slice (some ⟨g, o + 8, none⟩) (l.length - 8) (c - 8)] 125)) = w0 at *
  refine (take_any _ 4 (l.drop 8) _ R0 (by decide) (by decide) (by rw [List.length_drop]; omega) (by rw [List.length_drop]; omega)).mono ?_
  rintro e w1 ⟨he, hr1, hf1⟩
  rw [HK.out] at he
  subst he
  replace Z0 := hf1.heap Z0 (by simp)
  rw [List.drop_drop] at hr1
  have R1 := Lib.hid hr1
  have F1 := Lib.hid hf1
  have F00 := Lib.hid F0
  have Z1 := Lib.hid Z0
  clear R0 F0 Z0 hr1 hf1
  go_wp2_with fail
  refine (take_any _ 4 (l.drop (8 + 4)) _ R1.out (by decide) (by decide) (by rw [List.length_drop]; omega) (by rw [List.length_drop]; omega)).mono ?_
  rintro e w2 ⟨he, hr2, hf2⟩
  rw [show 8 + 4 = 12 from rfl, HM.out] at he
  subst he
  have Z2 := hf2.heap Z1.out (by simp)
  rw [List.drop_drop, show 8 + 4 + 4 = 16 from rfl] at hr2
  obtain ⟨a2, c2, hv, hb2⟩ := hr2.val
  have hc2 : l.length - 16 ≤ c2 := by
    obtain ⟨_, _, e, h1, _⟩ := id hb2
    cases e
    simpa using h1
  rw [List.length_drop] at hv hb2
  have q1 : w2.cell? ⟨w.heap.size + 1, 0, none⟩ = some (.slice a2 (l.length - 16) c2) := cell_of hv
  have q2 : w2.cell? ⟨w.heap.size, 0, none⟩ = some (.int .i64 0) := cell_of Z2
  have q3 : w2.cell? ⟨w.heap.size, 1, none⟩ = some (.slice none 0 0) := cell_of Z2
  have q4 : w2.frozen? ⟨w.heap.size, 0, none⟩ = false := frozen_in Z2 0
  have q5 : w2.frozen? ⟨w.heap.size, 1, none⟩ = false := frozen_in Z2 1
  have B2 := Lib.hid hb2
  have F2 := Lib.hid hf2
  have Z2' := Lib.hid Z2
  clear hr2 hv hb2 hf2 Z2
  have z1 := cell_set2 q2
  have z2 := cell_set3 q3 q2
  have E := Lib.hid (takeOpt_eq hb hl HM.out HK.out)
  have FF := Lib.hid ((F1.out.trans F2.out (fun _ _ => id)).trans' F00.out)
  by_cases hbig : (1024 : Int) < m
  · have hbig' : 1024 < m := by omega
    go_wp2_with fail
    refine bodyPost_ret (v := .tuple #[.agg #[.int .i64 0, .slice none 0 0], .int .i64 0, .int .i64 201]) (by simp [results, Try.results71, go_sem, Result.andThen, z1, z2, q2, q3]) rfl ?_
    unfold TookOpt
    rw [E.out]
    simp only [hbig', if_true]
    exact ⟨_, rfl, Sl.nil _ _ _, (fun g hg => by cases hg), took_fr FF.out⟩
  · by_cases hfew : (l.length : Int) < 16 + m
    · have hfew' : l.length < 16 + m := by omega
      have hbig' : ¬ 1024 < m := by omega
      go_wp2_with fail
      refine bodyPost_ret (v := .tuple #[.agg #[.int .i64 0, .slice none 0 0], .int .i64 0, .int .i64 0]) (by simp [results, Try.results71, go_sem, Result.andThen, z1, z2, q2, q3]) rfl ?_
      unfold TookOpt
      rw [E.out]
      simp only [hbig', hfew', if_true, if_false]
      exact ⟨_, rfl, Sl.nil _ _ _, (fun g hg => by cases hg), took_fr FF.out⟩
    · have hfew' : ¬ l.length < 16 + m := by omega
      have hbig' : ¬ 1024 < m := by omega
      have hlen : Hid (((l.drop 16).take m).length = m) := Lib.hid (by rw [List.length_take, List.length_drop]; omega)
      go_wp2_with (go_at_call 58; go_loud (refine (clone_any _ ((l.drop 16).take m) _ (BV.take B2.out m (by rw [List.length_drop]; omega)) (by rw [hlen.out]; omega)).mono ?_; rintro e w3 ⟨b', c', he, hp, _⟩; rw [hlen.out] at he hp; subst he; have p2 := hp.2.2.cell q2 id; have p3 := hp.2.2.cell q3 id; have p4 := frozen_in (hp.2.2.heap Z2'.out id) 0; have p5 := frozen_in (hp.2.2.heap Z2'.out id) 1; have y1 := cell_set2 p2; have y2 := cell_set3 p3 p2; have HP := Lib.hid hp; clear hp))
      refine bodyPost_ret (v := .tuple #[.agg #[.int .i64 k, .slice b' m c'], .int .i64 (16 + m), .int .i64 0]) (by simp [results, Try.results71, go_sem, Result.andThen, y1, y2, p2, p3]) rfl ?_
      unfold TookOpt
      rw [E.out]
      simp only [hbig', hfew', if_false]
      exact ⟨_, rfl, took_end hlen.out (lt_of_heap Z2'.out) HP.out FF.out⟩

theorem takeOption_any (v : Value) (l : List UInt8) (w : World) (h : BV w v l) (hl : l.length ≤ 140737488351232) : Calls Try.prog 71 #[v] w (TookOpt l w) := by
  cases hb : beginsB l haveOpt with
  | false => exact takeOption_no v l w h hb
  | true =>
    by_cases h16 : l.length < 16
    · exact takeOption_few v l w h hb h16
    · exact takeOption_many v l w h hb (by omega) hl

end Go.Proofs.Ytpelpmhopmefoaa
