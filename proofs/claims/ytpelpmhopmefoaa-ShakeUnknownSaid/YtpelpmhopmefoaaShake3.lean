/-
Walks of package shake: the option that ends the handshake at once.
-/
import Derived.Test.YtpelpmhopmefoaaShakeP
import Derived.Test.YtpelpmhopmefoaaAppZ
namespace Go.Proofs.Ytpelpmhopmefoaa
open Go.RowKit Go.Cof
set_option maxRecDepth 100000
set_option linter.unusedSimpArgs false

/-- A call answers with fresh bytes and leaves the handshake as S. -/
def ShDone (h : Nat) (S : Sh) (l : List UInt8) (w : World) (e : Ending) (w' : World) : Prop :=
  ∃ v, e = .returned v ∧ Sl w' 5 1 v l.length (bv l) ∧ (∀ g, v.ownBlock = some g → w.heap.size ≤ g) ∧ ShAt w' h S ∧ Fr (fun k => k = h) w w'

theorem phase_set {w : World} {h : Nat} {S : Sh} (p : Nat) (hs : ShAt w h S) {i : Int} (hi : i = p) : ShAt (w.setCell ⟨h, 3, none⟩ (.int .i64 i)) h { S with phase := p } := by
  subst hi
  have := heap_set (.int .i64 p) hs (o := 3)
  simpa [ShAt, Sh.cells] using this

theorem exportName_no (h : Nat) (S : Sh) (n : List UInt8) (w : World) (hs : ShAt w h S) (h1 : n ≠ []) (h2 : n ≠ S.name) : Calls Try.prog 72 #[.pointer (some ⟨h, 0, none⟩), .string (strB n)] w (ShDone h (S.nameB n).2 (S.nameB n).1 w) := by
  have c0 := hs.c0
  have c3 := hs.c3
  have z3 := hs.z 3
  have HS := Lib.hid hs
  have E : Hid (S.nameB n = ([], { S with phase := 3 })) := Lib.hid (by rw [Sh.nameB, if_pos ⟨h1, h2⟩])
  clear hs
  have tn := toList_strB n
  have ts := toList_strB S.name
  have e1 : n.isEmpty = false := by simpa using h1
  have e2 : (n == S.name) = false := by simpa using h2
  go_enter Try.func72, Try.ntmps72
  go_wp2_with fail
  go_returns
  unfold ShDone
  rw [E.out]
  exact ⟨_, rfl, Sl.nil _ _ _, (fun g hg => by cases hg), phase_set 3 HS.out rfl, Fr.set1 _ _ _ _⟩

theorem ShDone.fresh {w w1 w2 : World} {h : Nat} {S : Sh} {l : List UInt8} {v : Value} (hs : ShAt w1 h S) (hf : Fr (fun k => k = h) w w1) (hv : FreshBytes w1 w2 l v) : ShDone h S l w (.returned v) w2 :=
  ⟨v, rfl, hv.1, fun g hg => Nat.le_trans hf.size (hv.2.1 g hg), hs.keep hv.2.2 id, hf.trans hv.2.2 (fun _ _ => False.elim)⟩

theorem exportName_yes (h : Nat) (S : Sh) (n : List UInt8) (w : World) (hs : ShAt w h S) (hz : (S.sectors : Int) ≤ 1000000) (e0 : n = [] ∨ n = S.name) : Calls Try.prog 72 #[.pointer (some ⟨h, 0, none⟩), .string (strB n)] w (ShDone h (S.nameB n).2 (S.nameB n).1 w) := by
  obtain ⟨i0, hi, hz0, hz1, hz2⟩ := info_parts Try.info5
  have c0 := hs.c0
  have c3 := hs.c3
  have z3 := hs.z 3
  have HL := lt_of_heap hs
  have hs2 := phase_set 2 hs (i := 2) rfl
  have hf2 := Fr.set1 w h 3 (.int .i64 2)
  have E : Hid (S.nameB n = (S.exportB ++ (if S.bare then [] else List.replicate 124 0), { S with phase := 2 })) := Lib.hid (by rw [Sh.nameB, if_neg (by rcases e0 with e | e <;> simp [e])])
  have tn := toList_strB n
  have ts := toList_strB S.name
  have b5 := hs2.c5
  have HS2 := Lib.hid hs2
  have HF2 := Lib.hid hf2
  have HX : Hid (S.exportB.length = 10) := Lib.hid S.exportB_len
  have e12 : n.isEmpty = true ∨ (n.isEmpty = false ∧ (n == S.name) = true) := by
    rcases e0 with rfl | rfl
    · exact .inl rfl
    · cases hn : S.name with
      | nil => exact .inl rfl
      | cons a l => exact .inr ⟨rfl, by simp⟩
  clear hs hs2 hf2 e0
  cases hb : S.bare
  · have B := Lib.hid hb
    rw [hb] at b5
    clear hb
    rcases e12 with e1 | ⟨e1, e2⟩
    all_goals
      go_enter Try.func72, Try.ntmps72
      go_wp2_with (first
        | (go_at_call 89; go_loud (refine (export_any h { S with phase := 2 } _ HS2.out hz).mono ?_; rintro e w2 ⟨v, rfl, hF⟩; have hF' : FreshBytes _ w2 S.exportB v := hF; have b5' := hF.2.2.cell b5 id; have HF := Lib.hid hF'; clear hF hF'))
        | (at_builtin; refine wpList_op rfl fun K hK => op_appz _ _ 24 3 rfl 5 i0 (.int .u8 0) 1 Try.underlying24 Try.underlying3 hi hz0 hz1 hz2 rfl v S.exportB.length (bv S.exportB) rfl HF.out.1 124 124 rfl rfl (by decide) rfl (by rw [HX.out]; decide) (by rw [HX.out]; decide) ?_; intro v' w3 hap; have HAP := Lib.hid hap; clear hap; refine hK _ _ ?_; simp only [Act.put, List.setIfInBounds_toArray, List.set_cons_zero, List.set_cons_succ]))
      go_returns
      have e : (if S.bare = true then [] else List.replicate 124 (0 : UInt8)) = List.replicate 124 0 := by rw [B.out]; rfl
      rw [E.out, e]
      refine ShDone.fresh HS2.out HF2.out (l := S.exportB ++ List.replicate 124 0) (HF.out.append (d := List.replicate 124 0) ?_)
      simpa [bv] using HAP.out
  · have B := Lib.hid hb
    rw [hb] at b5
    clear hb
    rcases e12 with e1 | ⟨e1, e2⟩
    all_goals
      go_enter Try.func72, Try.ntmps72
      go_wp2_with (go_at_call 89; go_loud (refine (export_any h { S with phase := 2 } _ HS2.out hz).mono ?_; rintro e w2 ⟨v, rfl, hF⟩; have hF' : FreshBytes _ w2 S.exportB v := hF; have b5' := hF.2.2.cell b5 id; have HF := Lib.hid hF'; clear hF hF'))
      go_returns
      have e : (if S.bare = true then [] else List.replicate 124 (0 : UInt8)) = [] := by rw [B.out]; rfl
      rw [E.out, e]
      exact ShDone.fresh HS2.out HF2.out (l := S.exportB ++ []) (by rw [List.append_nil]; exact HF.out)

theorem exportName_any (h : Nat) (S : Sh) (n : List UInt8) (w : World) (hs : ShAt w h S) (hz : (S.sectors : Int) ≤ 1000000) : Calls Try.prog 72 #[.pointer (some ⟨h, 0, none⟩), .string (strB n)] w (ShDone h (S.nameB n).2 (S.nameB n).1 w) := by
  by_cases h1 : n = [] ∨ n = S.name
  · exact exportName_yes h S n w hs hz h1
  · exact exportName_no h S n w hs (fun e => h1 (.inl e)) (fun e => h1 (.inr e))

end Go.Proofs.Ytpelpmhopmefoaa
