/-
Walks of package device: the first trial.
-/
import Derived.Test.YtbakgaogehofbaaProg
import Derived.Test.YtbakgaogehofbaaMaps
import Derived.Test.YtbakgaogehofbaaDraw2
import Derived.Deep.RegionHeld3
import Derived.StillTailTactics
import Derived.Deep.QuietTactic
import Derived.BigQuiet
import Derived.WalkSpells
import Derived.WalkLawsBesides
import Derived.Outline
import Derived.Lib.Hide
import Derived.Deep.DeepCutAuto
namespace Go.Proofs.Ytbakgaogehofbaa
open Go.RowKit Go.Cof
set_option maxRecDepth 100000
set_option linter.unusedSimpArgs false

theorem Try.info5 : (Try.prog.info? 5).map (fun i => (i.zero, i.size, i.bytes)) = some (some (.int .u8 0), 1, 1) := by kernel_rfl
theorem Try.info94 : (Try.prog.info? 94).map (fun i => (i.zero, i.size, i.bytes)) = some (some (.agg #[.int .i64 0, .slice none 0 0, .bool false, .int .i64 0]), 4, 48) := by kernel_rfl

def bv (l : List UInt8) : List Value := l.map fun b => Value.int .u8 b.toNat
theorem bv_one (l : List UInt8) : ∀ u ∈ bv l, u.oneCell' = true := by
  intro u hu
  obtain ⟨b, _, rfl⟩ := List.mem_map.1 hu
  rfl

/-- v reads as the bytes l. -/
def BV (w : World) (v : Value) (l : List UInt8) : Prop := Rd w 1 v l.length (bv l)

/-- A fresh slice of bytes. -/
def FreshBytes (w w' : World) (l : List UInt8) (v : Value) : Prop :=
  Sl w' 5 1 v l.length (bv l) ∧ (∀ g, v.ownBlock = some g → w.heap.size ≤ g) ∧ Below w.heap.size w w'

theorem FreshBytes.fr {w w' : World} {l : List UInt8} {v : Value} (h : FreshBytes w w' l v) : Fr (fun _ => False) w w' := ⟨h.2.2.os, h.2.2.tape, h.2.2.output, h.2.2.size, fun k hk _ => h.2.2.block k hk⟩

def Cloned (w : World) (v : Value) (l : List UInt8) (e : Ending) (w' : World) : Prop :=
  ∃ b' cap', e = .returned (.slice b' l.length cap') ∧ FreshBytes w w' l (.slice b' l.length cap') ∧ (b' = none ↔ v = .slice none 0 0)

theorem clone_nil (w : World) : Calls Try.prog 72 #[.slice none 0 0] w fun e w' => e = .returned (.slice none 0 0) ∧ w = w' := by
  go_enter Try.func72, Try.ntmps72
  go_wp2
  go_returns
  exact ⟨rfl, rfl⟩

theorem cloned_mk {w w' : World} {a : Option Addr} {n cap : Nat} {l : List UInt8} {v' : Value} {b : Addr}
    (h : Appended (w.alloc (.cells #[] 5)) w' 5 1 (.slice (some ⟨w.heap.size, 0, none⟩) 0 0) v' l.length (bv l)) (ha : a = some b) : Cloned w (.slice a n cap) l (.returned v') w' := by
  subst ha
  have hf := ((Fr.refl (fun k => w.heap.size ≤ k) w).alloc (.cells #[] 5)).trans h.fr (fun j hj e => by cases e; exact Nat.le_refl _)
  obtain ⟨b', cap', rfl⟩ := h.sl.form
  refine ⟨b', cap', rfl, ⟨h.sl, fun g hg => ?_, hf.fresh (fun k hk => by omega)⟩, ⟨fun e => ?_, fun e => by cases e⟩⟩
  · rcases h.own g hg with e | e
    · cases e; exact Nat.le_refl _
    · simp at e; omega
  · subst e
    rcases h.sl.2 with e | ⟨_, _, _, _, _, e, _⟩
    · exact absurd (h.nil.1 e.1).1 (by simp)
    · cases e

theorem clone_some (a : Addr) (n cap : Nat) (l : List UInt8) (w : World) (h : BV w (.slice (some a) n cap) l) (hl : l.length ≤ 140737488351232) :
    Calls Try.prog 72 #[.slice (some a) n cap] w (Cloned w (.slice (some a) n cap) l) := by
  obtain ⟨i0, hi, hz0, hz1, hz2⟩ := info_parts Try.info5
  have hm : l.length ≤ maxLen := by unfold maxLen; omega
  go_enter Try.func72, Try.ntmps72
  go_wp2_with (at_builtin; refine wpList_append _ rfl (.tmp 5) (.tmp 6) 28 28 rfl 5 i0 (.int .u8 0) 1 1 Try.underlying28 hi hz0 hz1 hz2 rfl (by decide) (.slice (some ⟨w.heap.size, 0, none⟩) 0 0) 0 [] rfl ?c1 (.slice (some a) n cap) l.length (bv l) rfl ?c2 ?c3 ?c4 ?c5)
  case c1 => exact Sl.empty w 5 1
  case c2 => exact (h.keep ((Fr.refl (fun _ => False) w).alloc _) (fun _ _ => id)).src Try.underlying28 (bv_one l)
  case c3 => omega
  case c4 => omega
  case c5 =>
    intro v' w' hap
    go_wp2
    go_returns
    exact cloned_mk hap rfl

theorem clone_any (v : Value) (l : List UInt8) (w : World) (h : BV w v l) (hl : l.length ≤ 140737488351232) : Calls Try.prog 72 #[v] w (Cloned w v l) := by
  have h0 := h
  obtain ⟨a, cap, rfl, h1, h2, h3, h4⟩ := h
  cases a with
  | some a => exact clone_some a _ cap l w h0 hl
  | none =>
    obtain ⟨e1, rfl⟩ := h3 rfl
    obtain rfl : l = [] := List.eq_nil_of_length_eq_zero e1
    refine (clone_nil w).mono ?_
    rintro e w' ⟨rfl, rfl⟩
    exact ⟨none, 0, rfl, ⟨Sl.nil _ _ _, (fun g hg => by cases hg), Below.refl _ _⟩, by simp⟩

theorem new_bad (n : Int) (w : World) (h : n < 1 ∨ 2048 < n) : Calls Try.prog 33 #[.int .i64 n] w fun e w' => e = .returned (.tuple #[.pointer none, .int .i64 1]) ∧ w = w' := by
  rcases h with h | h
  all_goals
    go_enter Try.func33, Try.ntmps33
    go_wp2
    go_ret2
    exact ⟨rfl, rfl⟩

/-- What a device's struct leads to. -/
structure Raw where
  (d f n b c : Nat)
  (lv sv : Value)
  (fe ne be : List (Int × Value))
  lg : List (Int × Value × Bool × Int)
  sy : List (Int × Int)
  size : Int
  dead : Bool
  clock : Int

def logCells (l : List (Int × Value × Bool × Int)) : List Value := l.flatMap fun x => [.int .i64 x.1, x.2.1, .bool x.2.2.1, .int .i64 x.2.2.2]
def syncCells (l : List (Int × Int)) : List Value := l.flatMap fun x => [.int .i64 x.1, .int .i64 x.2]

/-- The blocks that are the device's own, and are written. -/
def Raw.M (R : Raw) (k : Nat) : Prop := k = R.d ∨ k = R.f ∨ k = R.n ∨ k = R.b ∨ k = R.c ∨ R.lv.ownBlock = some k ∨ R.sv.ownBlock = some k

structure RawAt (w : World) (R : Raw) : Prop where
  hd : w.heap[R.d]? = some (.cells #[.int .i64 R.size, .map (some R.f), .map (some R.n), .map (some R.b), .bool R.dead, R.lv, R.sv, .pointer (some ⟨R.c, 0, none⟩)] 89 (0, 0))
  hf : MapL w R.f R.fe
  hn : MapL w R.n R.ne
  hb : MapL w R.b R.be
  hc : w.heap[R.c]? = some (.cells #[.int .i64 R.clock] 3 (0, 0))
  hl : Sl w 94 4 R.lv R.lg.length (logCells R.lg)
  hs : Sl w 92 2 R.sv R.sy.length (syncCells R.sy)
  nd : [R.d, R.f, R.n, R.b, R.c].Nodup
  ndl : ∀ k, R.lv.ownBlock = some k → k ∉ [R.d, R.f, R.n, R.b, R.c]
  nds : ∀ k, R.sv.ownBlock = some k → k ∉ [R.d, R.f, R.n, R.b, R.c] ∧ R.lv.ownBlock ≠ some k

theorem RawAt.keep {w w' : World} {R : Raw} {S : Nat → Prop} (h : RawAt w R) (hf : Fr S w w') (hn : ∀ k, R.M k → ¬ S k) : RawAt w' R where
  hd := hf.heap h.hd (hn _ (by simp [Raw.M]))
  hf := h.hf.keep hf (hn _ (by simp [Raw.M]))
  hn := h.hn.keep hf (hn _ (by simp [Raw.M]))
  hb := h.hb.keep hf (hn _ (by simp [Raw.M]))
  hc := hf.heap h.hc (hn _ (by simp [Raw.M]))
  hl := h.hl.keep hf (fun g hg => hn g (by simp [Raw.M, hg]))
  hs := h.hs.keep hf (fun g hg => hn g (by simp [Raw.M, hg]))
  nd := h.nd
  ndl := h.ndl
  nds := h.nds

def Raw.new (B : Nat) (n : Int) : Raw := { d := B + 4, f := B, n := B + 1, b := B + 2, c := B + 3, lv := .slice none 0 0, sv := .slice none 0 0, fe := [], ne := [], be := [], lg := [], sy := [], size := n, dead := false, clock := 0 }

def NewDev (n : Int) (w : World) (e : Ending) (w' : World) : Prop :=
  e = .returned (.tuple #[.pointer (some ⟨w.heap.size + 4, 0, none⟩), .int .i64 0]) ∧ RawAt w' (Raw.new w.heap.size n) ∧ Below w.heap.size w w'

theorem new_post (n : Int) (w : World) : RawAt (((((w.alloc (.map #[] 0)).alloc (.map #[] 0)).alloc (.map #[] 0)).alloc (.cells #[.int .i64 0] 3)).alloc
    (.cells #[.int .i64 n, .map (some w.heap.size), .map (some (w.heap.size + 1)), .map (some (w.heap.size + 1 + 1)), .bool false, .slice none 0 0, .slice none 0 0, .pointer (some ⟨w.heap.size + 1 + 1 + 1, 0, none⟩)] 89)) (Raw.new w.heap.size n) := by
  have m1 := MapL.made w
  have m2 := MapL.made (w.alloc (.map #[] 0))
  have m3 := MapL.made ((w.alloc (.map #[] 0)).alloc (.map #[] 0))
  have s1 : (w.alloc (.map #[] 0)).heap.size = w.heap.size + 1 := by simp
  have s2 : ((w.alloc (.map #[] 0)).alloc (.map #[] 0)).heap.size = w.heap.size + 2 := by simp
  have s3 : (((w.alloc (.map #[] 0)).alloc (.map #[] 0)).alloc (.map #[] 0)).heap.size = w.heap.size + 3 := by simp
  have s4 : ((((w.alloc (.map #[] 0)).alloc (.map #[] 0)).alloc (.map #[] 0)).alloc (.cells #[.int .i64 0] 3)).heap.size = w.heap.size + 4 := by simp
  have c := heap_new (((w.alloc (.map #[] 0)).alloc (.map #[] 0)).alloc (.map #[] 0)) (.cells #[.int .i64 0] 3)
  have d := heap_new ((((w.alloc (.map #[] 0)).alloc (.map #[] 0)).alloc (.map #[] 0)).alloc (.cells #[.int .i64 0] 3)) (.cells #[.int .i64 n, .map (some w.heap.size), .map (some (w.heap.size + 1)), .map (some (w.heap.size + 1 + 1)), .bool false, .slice none 0 0, .slice none 0 0, .pointer (some ⟨w.heap.size + 1 + 1 + 1, 0, none⟩)] 89)
  rw [s1] at m2
  rw [s2] at m3
  rw [s3] at c
  rw [s4] at d
  refine ⟨d, ?_, ?_, ?_, heap_old _ _ c, Sl.nil _ _ _, Sl.nil _ _ _, ?_, (fun k hk => by simp [Raw.new, Value.ownBlock] at hk), (fun k hk => by simp [Raw.new, Value.ownBlock] at hk)⟩
  · exact m1.keep (S := fun _ => False) (((((Fr.refl _ _).alloc _).alloc _).alloc _).alloc _) id
  · exact m2.keep (S := fun _ => False) ((((Fr.refl _ _).alloc _).alloc _).alloc _) id
  · exact m3.keep (S := fun _ => False) (((Fr.refl _ _).alloc _).alloc _) id
  · simp [Raw.new]

theorem new_ok (n : Int) (w : World) (h : 1 ≤ n) (h2 : n ≤ 2048) : Calls Try.prog 33 #[.int .i64 n] w (NewDev n w) := by
  go_enter Try.func33, Try.ntmps33
  go_wp2
  go_ret2
  refine ⟨rfl, new_post n w, by go_grown⟩

/-- What stands behind the statement that builds the write. -/
def Built (w w' : World) (i : Int) (l : List UInt8) (sure : Bool) (clock : Int) (s8 : Value) : Prop :=
  ∃ g vb vc, s8 = .pointer (some ⟨g, 0, none⟩) ∧ w'.heap[g]? = some (.cells #[.int .i64 i, .slice vb l.length vc, .bool sure, .int .i64 clock] 94 (0, 0)) ∧ Sl w' 5 1 (.slice vb l.length vc) l.length (bv l) ∧
    w.heap.size ≤ g ∧ (∀ k, (Value.slice vb l.length vc).ownBlock = some k → w.heap.size ≤ k ∧ k ≠ g) ∧ Fr (fun _ => False) w w'

theorem built1 {w w' : World} {i : Int} {l : List UInt8} {sure : Bool} {clock : Int} {vb : Option Addr} {vc : Nat} (h : FreshBytes w.drew w' l (.slice vb l.length vc)) :
    Built w (w'.alloc (.cells #[.int .i64 i, .slice vb l.length vc, .bool sure, .int .i64 clock] 94)) i l sure clock (.pointer (some ⟨w'.heap.size, 0, none⟩)) := by
  have hf := h.fr
  refine ⟨w'.heap.size, vb, vc, rfl, heap_new _ _, h.1.keep ((Fr.refl (fun _ => False) _).alloc _) (fun _ _ => id), hf.size, fun k hk => ⟨h.2.1 k hk, ?_⟩, ((Fr.refl _ w).drew.trans hf (fun _ _ => id)).alloc _⟩
  have := h.1.lt k hk
  omega

theorem built2 {w w' : World} {o : Array Value} {i : Int} {l : List UInt8} {sure : Bool} {clock : Int} {vb : Option Addr} {vc : Nat} (ho : o.size = 4) (h : FreshBytes (w.alloc (.cells o 94)).drew w' l (.slice vb l.length vc)) :
    Built w ((((w'.setCell ⟨w.heap.size, 0, none⟩ (.int .i64 i)).setCell ⟨w.heap.size, 1, none⟩ (.slice vb l.length vc)).setCell ⟨w.heap.size, 2, none⟩ (.bool sure)).setCell ⟨w.heap.size, 3, none⟩ (.int .i64 clock))
      i l sure clock (.pointer (some ⟨w.heap.size, 0, none⟩)) := by
  have hf := h.fr
  have hg : w'.heap[w.heap.size]? = some (.cells o 94) := hf.heap (heap_new w _) id
  have hk : ∀ k, (Value.slice vb l.length vc).ownBlock = some k → w.heap.size < k := fun k hk => by have := h.2.1 k hk; simp at this; omega
  have fr := ((((Fr.refl (fun k => k = w.heap.size) w').setB rfl 0 (.int .i64 i)).setB rfl 1 (.slice vb l.length vc)).setB rfl 2 (.bool sure)).setB rfl 3 (.int .i64 clock)
  refine ⟨w.heap.size, vb, vc, rfl, heap_set4 _ _ _ _ hg ho, h.1.keep fr (fun k e => by have := hk k e; omega), Nat.le_refl _, fun k e => ?_, ?_⟩
  · have := hk k e
    omega
  · exact ((((Fr.refl (fun _ => False) w).alloc _).drew).trans hf (fun _ _ => id)).trans fr (fun j hj e => by omega)

def Raw.put (R : Raw) (i : Int) (v : Value) (sure : Bool) (lv : Value) : Raw :=
  { R with clock := wrap64 (R.clock + 1), ne := kput R.ne i v, lg := R.lg ++ [(i, v, sure, wrap64 (R.clock + 1))], lv := lv }

def PutPost (R : Raw) (i : Int) (l : List UInt8) (sure : Bool) (w w' : World) : Prop :=
  ∃ lv v, RawAt w' (R.put i v sure lv) ∧ Sl w' 5 1 v l.length (bv l) ∧ (∀ k, v.ownBlock = some k → w.heap.size ≤ k ∧ ¬ (R.put i v sure lv).M k) ∧ (∀ k, lv.ownBlock = some k → R.lv.ownBlock = some k ∨ w.heap.size ≤ k) ∧ Fr R.M w w'

theorem put_post {R : Raw} {w w1 wc w2 w4 : World} {i : Int} {l : List UInt8} {sure : Bool} {g : Nat} {vb va : Option Addr} {vc vcap : Nat} {o : Obj} (hR : RawAt w R)
    (fr1 : Fr (fun k => k = R.c) w w1) (hd1 : w1.heap[R.d]? = w.heap[R.d]?) (hc1 : w1.heap[R.c]? = some (.cells #[.int .i64 (wrap64 (R.clock + 1))] 3)) (hfc : Fr (fun _ => False) w1 wc)
    (hvv : Sl wc 5 1 (.slice vb l.length vc) l.length (bv l)) (hvs : ∀ k, (Value.slice vb l.length vc).ownBlock = some k → w1.heap.size ≤ k ∧ k ≠ g)
    (hn3 : MapL w2 R.n (kput R.ne i (.slice vb l.length vc))) (hf3 : Fr (fun b => b = R.n) wc w2)
    (hap : Appended ((w2.alloc o).drew) w4 94 4 R.lv (.slice va (R.lg.length + 1) vcap) (R.lg.length + 1) (logCells R.lg ++ [.int .i64 i, .slice vb l.length vc, .bool sure, .int .i64 (wrap64 (R.clock + 1))])) :
    PutPost R i l sure w (w4.setCell ⟨R.d, 5, none⟩ (.slice va (R.lg.length + 1) vcap)) := by
  obtain ⟨d, f, nn, b, c, lv, sv, fe, ne, be, lg, sy, size, dead, clock⟩ := R
  obtain ⟨hd, hf, hn, hb, hc, hlg, hs, nd, ndl, nds⟩ := hR
  simp only at *
  have h2 : Fr (fun k => lv.ownBlock = some k ∨ k = d) w2 (w4.setCell ⟨d, 5, none⟩ (.slice va (lg.length + 1) vcap)) :=
    ((((Fr.refl _ w2).alloc o).drew).trans hap.fr (fun j _ e => .inl e)).setB (.inr rfl) 5 _
  have hc2 : Fr (fun k => lv.ownBlock = some k ∨ k = d ∨ k = nn) wc (w4.setCell ⟨d, 5, none⟩ (.slice va (lg.length + 1) vcap)) :=
    (hf3.mono (fun j _ e => .inr (.inr e))).trans h2 (fun j _ e => e.imp id .inl)
  have h1 : Fr (fun k => lv.ownBlock = some k ∨ k = d ∨ k = nn) w1 (w4.setCell ⟨d, 5, none⟩ (.slice va (lg.length + 1) vcap)) :=
    (hfc.mono (fun j _ e => e.elim)).trans hc2 (fun j _ e => e)
  have h0 : Fr (fun k => k = c ∨ lv.ownBlock = some k ∨ k = d ∨ k = nn) w (w4.setCell ⟨d, 5, none⟩ (.slice va (lg.length + 1) vcap)) :=
    (fr1.mono (fun j _ e => .inl e)).trans h1 (fun j _ e => .inr e)
  have nd' := nd
  simp only [List.nodup_cons, List.mem_cons, List.not_mem_nil, or_false, not_or, not_false_eq_true, List.nodup_nil, and_true] at nd'
  obtain ⟨⟨n1, n2, n3, n4⟩, ⟨n5, n6, n7⟩, ⟨n8, n9⟩, n10⟩ := nd'
  have ldl : ∀ k, lv.ownBlock = some k → k ≠ d ∧ k ≠ f ∧ k ≠ nn ∧ k ≠ b ∧ k ≠ c := fun k hk => by
    have := ndl k hk
    simpa only [List.mem_cons, List.not_mem_nil, or_false, not_or] using this
  have lds : ∀ k, sv.ownBlock = some k → (k ≠ d ∧ k ≠ f ∧ k ≠ nn ∧ k ≠ b ∧ k ≠ c) ∧ lv.ownBlock ≠ some k := fun k hk => by
    have := nds k hk
    simpa only [List.mem_cons, List.not_mem_nil, or_false, not_or] using this
  have sz1 := fr1.size
  have szc := hfc.size
  have sz2 := hf3.size
  have lt : ∀ k, k ∈ [d, f, nn, b, c] → k < w.heap.size := fun k hk => by
    simp only [List.mem_cons, List.not_mem_nil, or_false] at hk
    rcases hk with rfl | rfl | rfl | rfl | rfl
    · exact lt_of_heap hd
    · exact hf.lt
    · exact hn.lt
    · exact hb.lt
    · exact lt_of_heap hc
  have new : ∀ k, (Value.slice va (lg.length + 1) vcap).ownBlock = some k → lv.ownBlock = some k ∨ w.heap.size ≤ k := fun k hk => by
    rcases hap.own k hk with e | e
    · exact .inl e
    · have : (w2.alloc o).drew.heap.size = w2.heap.size + 1 := by simp
      exact .inr (by omega)
  have hd5 : (w4.setCell ⟨d, 5, none⟩ (.slice va (lg.length + 1) vcap)).heap[d]? = some (.cells #[.int .i64 size, .map (some f), .map (some nn), .map (some b), .bool dead, .slice va (lg.length + 1) vcap, sv, .pointer (some ⟨c, 0, none⟩)] 89 (0, 0)) := by
    have e1 := hfc.heap (hd1.trans hd) id
    have e2 := hf3.heap e1 (fun e => n2 e)
    have e3 := hap.fr.heap (heap_old o _ e2) (fun e => (ldl d e).1 rfl)
    exact heap_set _ e3
  have nvd : ∀ k, (Value.slice va (lg.length + 1) vcap).ownBlock = some k → k ≠ d := fun k hk e => by
    subst e
    rcases new k hk with e | e
    · exact (ldl k e).1 rfl
    · have := lt k (by simp)
      omega
  have vnew : ∀ k, (Value.slice vb l.length vc).ownBlock = some k → w.heap.size ≤ k := fun k hk => by have := (hvs k hk).1; omega
  have vlt : ∀ k, (Value.slice vb l.length vc).ownBlock = some k → k < w2.heap.size := fun k hk => by have := hvv.lt k hk; omega
  have vnl : ∀ k, (Value.slice vb l.length vc).ownBlock = some k → ¬ lv.ownBlock = some k := fun k hk e => by
    have := hlg.lt k e
    have := vnew k hk
    omega
  have vn : ∀ k, (Value.slice vb l.length vc).ownBlock = some k → k ∉ [d, f, nn, b, c] := fun k hk hm => by
    have := lt k hm
    have := vnew k hk
    omega
  refine ⟨_, _, ⟨hd5, hf.keep h0 ?_, hn3.keep h2 ?_, hb.keep h0 ?_, h1.heap hc1 ?_, ?_, hs.keep h0 ?_, nd, ?_, ?_⟩, hvv.keep hc2 ?_, fun k hk => ⟨vnew k hk, ?_⟩, new, ?_⟩
  · rintro (e | e | e | e)
    · exact n7 e
    · exact (ldl f e).2.1 rfl
    · exact n1 e.symm
    · exact n5 e
  · rintro (e | e)
    · exact (ldl nn e).2.2.1 rfl
    · exact n2 e.symm
  · rintro (e | e | e | e)
    · exact n10 e
    · exact (ldl b e).2.2.2.1 rfl
    · exact n3 e.symm
    · exact n8 e.symm
  · rintro (e | e | e)
    · exact (ldl c e).2.2.2.2 rfl
    · exact n4 e.symm
    · exact n9 e.symm
  · simp only [Raw.put, List.length_append, List.length_cons, List.length_nil, Nat.zero_add]
    have := (hap.sl.keep ((Fr.refl (fun k => k = d) w4).setB rfl 5 (.slice va (lg.length + 1) vcap)) nvd)
    simpa [logCells] using this
  · rintro k hk (e | e | e | e)
    · exact (lds k hk).1.2.2.2.2 e
    · exact (lds k hk).2 e
    · exact (lds k hk).1.1 e
    · exact (lds k hk).1.2.2.1 e
  · intro k hk hm
    rcases new k hk with e | e
    · exact ndl k e hm
    · have := lt k hm
      omega
  · intro k hk
    refine ⟨(nds k hk).1, fun e => ?_⟩
    rcases new k e with e | e
    · exact (nds k hk).2 e
    · have := hs.lt k hk
      omega
  · rintro k hk (e | e | e)
    · exact vnl k hk e
    · exact vn k hk (by simp [e])
    · exact vn k hk (by simp [e])
  · intro hm
    simp only [Raw.M, Raw.put] at hm
    rcases hm with e | e | e | e | e | e | e
    · exact vn k hk (by simp [e])
    · exact vn k hk (by simp [e])
    · exact vn k hk (by simp [e])
    · exact vn k hk (by simp [e])
    · exact vn k hk (by simp [e])
    · rcases hap.own k e with e' | e'
      · exact vnl k hk e'
      · have := vlt k hk
        have : (w2.alloc o).drew.heap.size = w2.heap.size + 1 := by simp
        omega
    · have := hs.lt k e
      have := vnew k hk
      omega
  · refine h0.mono fun j _ e => ?_
    simp only [Raw.M]
    rcases e with e | e | e | e
    · simp [e]
    · simp [e]
    · simp [e]
    · simp [e]

set_option maxHeartbeats 8000000 in
theorem put_any (R : Raw) (i : Int) (v : Value) (l : List UInt8) (sure : Bool) (w : World) (hR : RawAt w R) (hv : BV w v l) (hl : l.length ≤ 64) (ha : ∀ k, v.ownBlock = some k → ¬ R.M k) (hlog : R.lg.length < 1000000) :
    Calls Try.prog 57 #[.pointer (some ⟨R.d, 0, none⟩), .int .i64 i, v, .bool sure] w fun e w' => e = .returned (.tuple #[]) ∧ PutPost R i l sure w w' := by
  obtain ⟨i0, hi, hz0, hz1, hz2⟩ := info_parts Try.info94
  have hR0 := Lib.hid hR
  obtain ⟨d, f, nn, b, c, lv, sv, fe, ne, be, lg, sy, size, dead, clock⟩ := R
  obtain ⟨hd, hf, hn, hb, hc, hlg, hs, nd, ndl, nds⟩ := hR
  simp only at hd hf hn hb hc hlg hs nd ndl nds hlog
  have hdc : d ≠ c := by simp at nd; omega
  have hd1 := (heap_set_ne (.int .i64 (wrap64 (clock + 1))) (o := 0) hdc).trans hd
  have hc1 := heap_set (.int .i64 (wrap64 (clock + 1))) hc (o := 0)
  simp only [List.setIfInBounds_toArray, List.set_cons_zero] at hc1
  have fr1 : Fr (fun k => k = c) w (w.setCell ⟨c, 0, none⟩ (.int .i64 (wrap64 (clock + 1)))) := (Fr.refl _ w).setCell _ (fun _ => rfl)
  have hv1 : BV (w.setCell ⟨c, 0, none⟩ (.int .i64 (wrap64 (clock + 1)))) v l := hv.keep fr1 (fun g hg e => ha g hg (by simp [Raw.M, e]))
  have q1 : w.cell? ⟨d, 7, none⟩ = some (.pointer (some ⟨c, 0, none⟩)) := cell_of hd
  have q2 : w.cell? ⟨c, 0, none⟩ = some (.int .i64 clock) := cell_of hc
  have q3 : w.frozen? ⟨c, 0, none⟩ = false := frozen_in hc 0
  have q4 : (w.setCell ⟨c, 0, none⟩ (.int .i64 (wrap64 (clock + 1)))).cell? ⟨d, 7, none⟩ = some (.pointer (some ⟨c, 0, none⟩)) := cell_of hd1
  have q5 : (w.setCell ⟨c, 0, none⟩ (.int .i64 (wrap64 (clock + 1)))).cell? ⟨c, 0, none⟩ = some (.int .i64 (wrap64 (clock + 1))) := cell_of hc1
  have ND := Lib.hid nd
  have NDL := Lib.hid ndl
  have NDS := Lib.hid nds
  have HA := Lib.hid ha
  clear nd ndl nds ha hdc
  go_enter Try.func57, Try.ntmps57
  go_upto_region 1 with fail
  generalize w.setCell ⟨c, 0, none⟩ (.int .i64 (wrap64 (clock + 1))) = w1 at *
  clear hd hc q1 q2 q3
  have ld := lt_of_heap hd1
  have lc := lt_of_heap hc1
  go_cut [8] (fun s8 wx => Built w1 wx i l sure (wrap64 (clock + 1)) s8)
  case first =>
    refine wp_drawn (by kernel_rfl) ?_
    -- 0: move
    refine wpY_pure0 0 rfl rfl (by kernel_rfl) (by kernel_rfl) (fun K hK => ?_); go_wp2_with fail
    -- 1: move
    refine wpY_pure0 1 rfl rfl (by kernel_rfl) (by kernel_rfl) (fun K hK => ?_); go_wp2_with fail
    -- 3: move
    refine wpY_pure0 3 rfl rfl (by kernel_rfl) (by kernel_rfl) (fun K hK => ?_); go_wp2_with fail
    -- 4: move
    refine wpY_pure0 4 rfl rfl (by kernel_rfl) (by kernel_rfl) (fun K hK => ?_); go_wp2_with fail
    -- 5: nilCheck
    refine wpY_pure0 5 rfl rfl (by kernel_rfl) (by kernel_rfl) (fun K hK => ?_); go_wp2_with fail
    -- 6: fieldAddr
    refine wpY_pure0 6 rfl rfl (by kernel_rfl) (by kernel_rfl) (fun K hK => ?_); go_wp2_with fail
    -- 7: load
    refine wpY_read0 7 rfl rfl (by kernel_rfl) rfl (fun K hK => ?_); go_wp2_with fail
    -- 8: nilCheck
    refine wpY_pure0 8 rfl rfl (by kernel_rfl) (by kernel_rfl) (fun K hK => ?_); go_wp2_with fail
    -- 9: load
    refine wpY_read0 9 rfl rfl (by kernel_rfl) rfl (fun K hK => ?_); go_wp2_with fail
    -- 2: call, or 11: alloc
    refine wpY_two 2 11 [9, 7] [9, 7] rfl rfl (by kernel_rfl) (by kernel_rfl) (by kernel_rfl) (fun K hK => ?_) (fun K hK => ?_)
    · refine if_plain rfl ?_
      go_wp2_with (go_at_call 72; refine (clone_any v l _ (hv1.keep (S := fun _ => False) (by repeat' (first | with_reducible exact Fr.refl _ _ | with_reducible assumption | with_reducible refine Fr.drew ?_ | with_reducible refine Fr.alloc ?_ _)) (fun _ _ => id)) (by omega)).mono ?_; rintro e w' ⟨vb, vc, rfl, hfresh, hnil⟩; have hfr := hfresh.fr; obtain ⟨hcx, hfx⟩ := bcell hfresh.2.2; obtain ⟨r4, l4⟩ := cell_fr2 (hfr.trans' (by repeat' (first | with_reducible exact Fr.refl _ _ | with_reducible assumption | with_reducible refine Fr.drew ?_ | with_reducible refine Fr.alloc ?_ _))) q4 id; obtain ⟨r5, l5⟩ := cell_fr2 (hfr.trans' (by repeat' (first | with_reducible exact Fr.refl _ _ | with_reducible assumption | with_reducible refine Fr.drew ?_ | with_reducible refine Fr.alloc ?_ _))) q5 id)
      refine ⟨⟨?_, ?_, trivial⟩, ?_⟩
      · refine again_run0 rfl rfl rfl (fun K hK => ?_); go_wp2_with fail; exact trivial
      · refine again_run0 rfl rfl rfl (fun K hK => ?_); go_wp2_with fail; exact trivial
      -- 10: build
      refine wpY_pure0 10 rfl rfl (by kernel_rfl) (by kernel_rfl) (fun K hK => ?_); go_wp2_with fail
      -- 11: alloc
      refine wpY_one0 11 [9, 7] rfl rfl (by kernel_rfl) (by kernel_rfl) (fun K hK => ?_)
      go_wp2_with fail
      refine ⟨⟨?_, ?_, trivial⟩, ?_⟩
      · refine again_run0 rfl rfl rfl (fun K hK => ?_); go_wp2_with fail; exact trivial
      · refine again_run0 rfl rfl rfl (fun K hK => ?_); go_wp2_with fail; exact trivial
      -- 12: store
      refine wpY_one0 12 [] rfl rfl (by kernel_rfl) (by kernel_rfl) (fun K hK => ?_)
      go_wp2_with fail
      refine ⟨trivial, ?_⟩
      refine wpY_done (by kernel_rfl) ?_ _
      go_wp2_with fail; go_meet; first | with_reducible exact built1 hfresh | with_reducible exact built2 rfl hfresh
    · refine if_plain rfl ?_
      go_wp2_with fail
      refine ⟨⟨?_, ?_, trivial⟩, ?_⟩
      · refine again_run0 rfl rfl rfl (fun K hK => ?_); go_wp2_with fail; exact trivial
      · refine again_run0 rfl rfl rfl (fun K hK => ?_); go_wp2_with fail; exact trivial
      -- 2: call
      refine wpY_one0 2 [9, 7] rfl rfl (by kernel_rfl) (by kernel_rfl) (fun K hK => ?_)
      go_wp2_with (go_at_call 72; refine (clone_any v l _ (hv1.keep (S := fun _ => False) (by repeat' (first | with_reducible exact Fr.refl _ _ | with_reducible assumption | with_reducible refine Fr.drew ?_ | with_reducible refine Fr.alloc ?_ _)) (fun _ _ => id)) (by omega)).mono ?_; rintro e w' ⟨vb, vc, rfl, hfresh, hnil⟩; have hfr := hfresh.fr; obtain ⟨hcx, hfx⟩ := bcell hfresh.2.2; obtain ⟨r4, l4⟩ := cell_fr2 (hfr.trans' (by repeat' (first | with_reducible exact Fr.refl _ _ | with_reducible assumption | with_reducible refine Fr.drew ?_ | with_reducible refine Fr.alloc ?_ _))) q4 id; obtain ⟨r5, l5⟩ := cell_fr2 (hfr.trans' (by repeat' (first | with_reducible exact Fr.refl _ _ | with_reducible assumption | with_reducible refine Fr.drew ?_ | with_reducible refine Fr.alloc ?_ _))) q5 id)
      refine ⟨⟨?_, ?_, trivial⟩, ?_⟩
      · refine again_run0 rfl rfl rfl (fun K hK => ?_); go_wp2_with fail; exact trivial
      · refine again_run0 rfl rfl rfl (fun K hK => ?_); go_wp2_with fail; exact trivial
      -- 10: build
      refine wpY_pure0 10 rfl rfl (by kernel_rfl) (by kernel_rfl) (fun K hK => ?_); go_wp2_with fail
      -- 12: store
      refine wpY_one0 12 [] rfl rfl (by kernel_rfl) (by kernel_rfl) (fun K hK => ?_)
      go_wp2_with fail
      refine ⟨trivial, ?_⟩
      refine wpY_done (by kernel_rfl) ?_ _
      go_wp2_with fail; go_meet; first | with_reducible exact built1 hfresh | with_reducible exact built2 rfl hfresh
  case rest =>
    obtain ⟨g, vb, vc, rfl, hg, hvv, hgs, hvs, hfc⟩ := hcut
    have hd2 := hfc.heap hd1 id
    have hnc : nn ≠ c := by have := ND.out; simp at this; omega
    have hnd : nn ≠ d := by have := ND.out; simp at this; omega
    have hn1 := hn.keep fr1 hnc
    have hn2 := hn1.keep hfc id
    have gd : g ≠ d := by omega
    have gn : g ≠ nn := by have := hn1.lt; omega
    have e1 : wc.cell? ⟨d, 2, none⟩ = some (.map (some nn)) := cell_of hd2
    have e3 : wc.cell? ⟨g, 1, none⟩ = some (.slice vb l.length vc) := cell_of hg
    go_wp2_with fail
    refine wp_drawn (by kernel_rfl) ?_
    -- 0: move
    refine wpY_pure0 0 rfl rfl (by kernel_rfl) (by kernel_rfl) (fun K hK => ?_); go_wp2_with fail
    -- 1: nilCheck
    refine wpY_pure0 1 rfl rfl (by kernel_rfl) (by kernel_rfl) (fun K hK => ?_); go_wp2_with fail
    -- 2: fieldAddr
    refine wpY_pure0 2 rfl rfl (by kernel_rfl) (by kernel_rfl) (fun K hK => ?_); go_wp2_with fail
    -- 4: move
    refine wpY_pure0 4 rfl rfl (by kernel_rfl) (by kernel_rfl) (fun K hK => ?_); go_wp2_with fail
    -- 5: fieldAddr
    refine wpY_pure0 5 rfl rfl (by kernel_rfl) (by kernel_rfl) (fun K hK => ?_); go_wp2_with fail
    -- 3: load
    refine wpY_read0 3 rfl rfl (by kernel_rfl) rfl (fun K hK => ?_); go_wp2_with fail
    -- 6: load
    refine wpY_read0 6 rfl rfl (by kernel_rfl) rfl (fun K hK => ?_); go_wp2_with fail
    -- 7: mapUpdate
    refine wpY_one0 7 [] rfl rfl (by kernel_rfl) (by kernel_rfl) (fun K hK => ?_)
    refine op_update (.tmp 31) (.tmp 32) (.tmp 34) 83 rfl Try.underlying83 Try.underlying3 rfl i rfl (.slice vb l.length vc) rfl hn2 ?_; intro w2 hn3 hf3; replace hf3 := hf3.trans' (Fr.refl _ wc).drew; simp only [Act.put, List.setIfInBounds_toArray, List.set_cons_zero, List.set_cons_succ]; refine hK _ _ ?_
    refine ⟨trivial, ?_⟩
    refine wpY_done (by kernel_rfl) ?_ _
    have hd3 := hf3.heap hd2 (fun e => hnd e.symm)
    have hg3 := hf3.heap hg (fun e => gn e)
    have hl1 := hlg.keep fr1 (fun k hk e => NDL.out k hk (by subst e; simp))
    have hl2 := hl1.keep hfc (fun _ _ => id)
    have hl3 := hl2.keep hf3 (fun k hk e => NDL.out k hk (by subst e; simp))
    have k1 : w2.cell? ⟨d, 5, none⟩ = some lv := cell_of hd3
    have k2 : w2.cell? ⟨g, 0, none⟩ = some (.int .i64 i) := cell_of hg3
    have k3 : w2.cell? ⟨g, 1, none⟩ = some (.slice vb l.length vc) := cell_of hg3
    have k4 : w2.cell? ⟨g, 2, none⟩ = some (.bool sure) := cell_of hg3
    have k5 : w2.cell? ⟨g, 3, none⟩ = some (.int .i64 (wrap64 (clock + 1))) := cell_of hg3
    have ld3 := lt_of_heap hd3
    have lg3 := lt_of_heap hg3
    clear e1 e3 q4 q5
    have H1 : Hid (∀ u ∈ [Value.int .i64 i, .slice vb l.length vc, .bool sure, .int .i64 (wrap64 (clock + 1))], u.oneCell' = true) := Lib.hid (by simp [Value.oneCell'])
    go_wp2_with fail
    refine wp_drawn (by kernel_rfl) ?_
    -- 0: move
    refine wpY_pure0 0 rfl rfl (by kernel_rfl) (by kernel_rfl) (fun K hK => ?_); go_wp2_with fail
    -- 1: move
    refine wpY_pure0 1 rfl rfl (by kernel_rfl) (by kernel_rfl) (fun K hK => ?_); go_wp2_with fail
    -- 2: nilCheck
    refine wpY_pure0 2 rfl rfl (by kernel_rfl) (by kernel_rfl) (fun K hK => ?_); go_wp2_with fail
    -- 3: fieldAddr
    refine wpY_pure0 3 rfl rfl (by kernel_rfl) (by kernel_rfl) (fun K hK => ?_); go_wp2_with fail
    -- 4: load
    refine wpY_read0 4 rfl rfl (by kernel_rfl) rfl (fun K hK => ?_); go_wp2_with fail
    -- 5: load
    refine wpY_read0 5 rfl rfl (by kernel_rfl) rfl (fun K hK => ?_); go_wp2_with fail
    -- 6: buildSlice
    refine wpY_one0 6 [4] rfl rfl (by kernel_rfl) (by kernel_rfl) (fun K hK => ?_)
    go_wp2_with fail
    refine ⟨⟨?_, trivial⟩, ?_⟩
    · refine again_run0 rfl rfl rfl (fun K hK => ?_); go_wp2_with fail; exact trivial
    -- 7: call
    refine wpY_one0 7 [] rfl rfl (by kernel_rfl) (by kernel_rfl) (fun K hK => ?_)
    refine op_append (.tmp 39) (.tmp 41) 85 85 rfl 94 i0 _ 4 48 Try.underlying85 hi hz0 hz1 hz2 rfl (by decide) lv lg.length (logCells lg) rfl (hl3.keep (S := fun _ => False) (by repeat' (first | with_reducible exact Fr.refl _ _ | with_reducible assumption | with_reducible refine Fr.drew ?_ | with_reducible refine Fr.alloc ?_ _)) (fun _ _ => id)) (.slice (some ⟨w2.heap.size, 0, none⟩) 1 1) 1 [.int .i64 i, .slice vb l.length vc, .bool sure, .int .i64 (wrap64 (clock + 1))] rfl ((Rd.block (xs := [.int .i64 i, .slice vb l.length vc, .bool sure, .int .i64 (wrap64 (clock + 1))]) (heap_new w2 _) rfl).drew.src Try.underlying85 H1.out) (by unfold maxLen; omega) (by omega) ?_; intro v4 w4 hap; obtain ⟨va, vcap, rfl⟩ := hap.sl.form; have hd4 := hap.fr.heap (heap_old _ _ hd3) (fun e => NDL.out d e (by simp)); have m1 : w4.cell? ⟨d, 5, none⟩ = some lv := cell_of hd4; have m2 : w4.frozen? ⟨d, 5, none⟩ = false := frozen_in hd4 5; simp only [Act.put, List.setIfInBounds_toArray, List.set_cons_zero, List.set_cons_succ]; refine hK _ _ ?_
    refine ⟨trivial, ?_⟩
    -- 8: nilCheck
    refine wpY_pure0 8 rfl rfl (by kernel_rfl) (by kernel_rfl) (fun K hK => ?_); go_wp2_with fail
    -- 9: fieldAddr
    refine wpY_pure0 9 rfl rfl (by kernel_rfl) (by kernel_rfl) (fun K hK => ?_); go_wp2_with fail
    -- 10: store
    refine wpY_one0 10 [] rfl rfl (by kernel_rfl) (by kernel_rfl) (fun K hK => ?_)
    go_wp2_with fail
    refine ⟨trivial, ?_⟩
    refine wpY_done (by kernel_rfl) ?_ _
    skip
    go_wp2_with fail
    go_end0
    exact ⟨rfl, put_post hR0.out fr1 (hd1.trans (hR0.out.hd).symm) hc1 hfc hvv hvs hn3 hf3 hap⟩

end Go.Proofs.Ytbakgaogehofbaa
