/-
Walks of package wire: what an option Info or Go asks for.
-/
import Derived.Test.YtpelpmhopmefoaaWire3
namespace Go.Proofs.Ytpelpmhopmefoaa
open Go.RowKit Go.Cof
set_option maxRecDepth 100000
set_option linter.unusedSimpArgs false

theorem Try.info3 : (Try.prog.info? 3).map (fun i => (i.zero, i.size, i.bytes)) = some (some (.int .i64 0), 1, 8) := by kernel_rfl

/-- The numbers of two bytes each. -/
def twos : Nat → List UInt8 → List Nat
  | 0, _ => []
  | n + 1, l => getN (l.take 2) :: twos n (l.drop 2)
def infoN (l : List UInt8) : Nat := getN (l.take 4)
def infoRest (l : List UInt8) : List UInt8 := l.drop (4 + infoN l)
def infoM (l : List UInt8) : Nat := getN ((infoRest l).take 2)
/-- What TakeInfo tells: the name, the numbers, the error. -/
def takeInf (l : List UInt8) : List UInt8 × List Nat × Int :=
  if l.length < 6 then ([], [], 201)
  else if l.length - 6 < infoN l then ([], [], 201)
  else if l.length ≠ 6 + infoN l + 2 * infoM l then ([], [], 201)
  else ((l.drop 4).take (infoN l), twos (infoM l) ((infoRest l).drop 2), 0)

theorem getN2 (l : List UInt8) : (getN (l.take 2) : Int) ≤ 65535 := by
  have h := getN_lt (l.take 2)
  have : 256 ^ (l.take 2).length ≤ 256 ^ 2 := Nat.pow_le_pow_right (by decide) (by rw [List.length_take]; omega)
  omega
def nv (l : List Nat) : List Value := l.map fun (n : Nat) => Value.int .i64 (n : Int)

/-- How many bytes a reader has. -/
def readLeft (w : World) (r : Nat) : Nat :=
  match w.cell? ⟨r, 0, none⟩ with
  | some (Value.slice _ n _) => n
  | _ => 0
theorem readLeft_eq {w : World} {r : Nat} {l : List UInt8} (h : Reader w r l) : readLeft w r = l.length := by
  obtain ⟨a, c, h1, _⟩ := h.val
  have : w.cell? ⟨r, 0, none⟩ = some (.slice a l.length c) := cell_of h1
  rw [readLeft, this]
theorem takeInf_ok {l : List UInt8} {n m : Nat} (h6 : 6 ≤ l.length) (hn : getN (l.take 4) = n) (hm : infoM l = m) (h : l.length = 6 + n + 2 * m) : takeInf l = ((l.drop 4).take n, twos m ((infoRest l).drop 2), 0) := by
  rw [takeInf, if_neg (by omega), infoN, hn, if_neg (by omega), hm, if_neg (by omega)]
theorem twos_length : ∀ (n : Nat) (l : List UInt8), (twos n l).length = n
  | 0, _ => rfl
  | n + 1, l => by simp [twos, twos_length n]
theorem twos_get : ∀ (n : Nat) (l : List UInt8) (k : Nat), k < n → (twos n l)[k]? = some (getN ((l.drop (2 * k)).take 2))
  | 0, _, _, h => by omega
  | n + 1, l, 0, _ => by simp [twos]
  | n + 1, l, k + 1, h => by
    have := twos_get n (l.drop 2) k (by omega)
    simp only [twos, List.getElem?_cons_succ, this, List.drop_drop]
    rw [show 2 + 2 * k = 2 * (k + 1) by omega]

def TookInf (l : List UInt8) (w : World) (e : Ending) (w' : World) : Prop :=
  ∃ v, e = .returned (.tuple #[.string (strB (takeInf l).1), v, .int .i64 (takeInf l).2.2]) ∧ Sl w' 3 1 v (takeInf l).2.1.length (nv (takeInf l).2.1) ∧ Fr (fun _ => False) w w'

theorem takeInfo_few (v : Value) (l : List UInt8) (w : World) (h : BV w v l) (h6 : l.length < 6) : Calls Try.prog 94 #[v] w (TookInf l w) := by
  obtain ⟨a, c, rfl⟩ := h.form
  have E : Hid (takeInf l = ([], [], 201)) := Lib.hid (by simp [takeInf, h6])
  go_enter Try.func94, Try.ntmps94
  go_wp2
  go_returns
  unfold TookInf
  rw [E.out]
  exact ⟨.slice none 0 0, rfl, Sl.nil _ _ _, Fr.refl _ _⟩

theorem info_step {w wr w4 w5 : World} {rest : List UInt8} {m k x cv : Nat} {av : Option Addr} {v' o : Value} (hk : k < m) (hl : rest.length = 2 * m) (hx : getN ((rest.drop (2 * k)).take 2) = x) (hr : Reader wr w.heap.size (rest.drop (2 * k)))
    (hr4 : Reader w4 w.heap.size ((rest.drop (2 * k)).drop 2)) (hf4 : Fr (fun j => j = w.heap.size) wr w4) (hO : ∀ y, (Value.slice av k cv).ownBlock = some y → w.heap.size < y) (hF : Fr (fun j => w.heap.size ≤ j) w wr)
    (hap : Appended (w4.alloc (.cells #[o] 3)) w5 3 1 (.slice av k cv) v' (k + 1) (nv ((twos m rest).take k) ++ [.int .i64 x])) :
    readLeft w5 w.heap.size < readLeft wr w.heap.size ∧ Reader w5 w.heap.size (rest.drop (2 * (k + 1))) ∧ Sl w5 3 1 v' (k + 1) (nv ((twos m rest).take (k + 1))) ∧ (∀ y, v'.ownBlock = some y → w.heap.size < y) ∧ Fr (fun j => w.heap.size ≤ j) w w5 := by
  have s4 := hf4.size
  have lr : w.heap.size < wr.heap.size := by
    obtain ⟨_, h, _⟩ := hr
    exact lt_of_heap h
  have hr5 : Reader w5 w.heap.size (rest.drop (2 * (k + 1))) := by
    rw [List.drop_drop, show 2 * k + 2 = 2 * (k + 1) by omega] at hr4
    have h5 := hr4.keep0 ((Fr.refl (fun _ => False) w4).alloc (.cells #[o] 3))
    obtain ⟨v, h6, h7, h8⟩ := h5
    refine ⟨v, hap.fr.heap h6 (fun e => ?_), h7.keep hap.fr (fun g hg e => ?_), h8⟩
    · have := hO _ e
      omega
    · have := hO _ e
      have := h8 g hg
      omega
  refine ⟨?_, hr5, ?_, fun y hy => ?_, ?_⟩
  · rw [readLeft_eq hr5, readLeft_eq hr, List.length_drop, List.length_drop]
    omega
  · have e : (twos m rest).take (k + 1) = (twos m rest).take k ++ [x] := by
      rw [List.take_add_one, twos_get m rest k hk, hx]
      rfl
    rw [e]
    simpa [nv] using hap.sl
  · rcases hap.own y hy with e | e
    · exact hO y e
    · simp at e
      omega
  · have := (hF.trans (hf4.mono (S' := fun j => w.heap.size ≤ j) (fun j _ e => by omega)) (fun _ _ => id)).alloc (.cells #[o] 3)
    exact this.trans hap.fr (fun j _ e => by have := hO j e; omega)

set_option maxHeartbeats 1000000 in
theorem takeInfo_many (v : Value) (l : List UInt8) (w : World) (h : BV w v l) (h6 : 6 ≤ l.length) (hl : l.length ≤ 100000) : Calls Try.prog 94 #[v] w (TookInf l w) := by
  obtain ⟨i0, hi, hz0, hz1, hz2⟩ := info_parts Try.info3
  rcases h.cases with ⟨_, rfl⟩ | ⟨g, o, c, rfl, hc, hg, hx⟩
  · simp at h6
  obtain ⟨n, hn⟩ : ∃ n, getN (l.take 4) = n := ⟨_, rfl⟩
  have hn4 := getN4 l
  rw [hn] at hn4
  have HN := Lib.hid hn
  have R0 := Lib.hid (reader_new h)
  clear hn h hx
  go_enter Try.func94, Try.ntmps94
  go_upto_region 5 with (go_at_call 81; go_loud (refine (take_any _ 4 l _ R0.out (by decide) (by decide) (by omega) (by omega)).mono ?_; rintro e w1 ⟨he, hr1, hf1⟩; rw [HN.out] at he; subst he))
  have hf1' := hf1.trans' ((Fr.refl (fun _ => False) w).alloc (.cells #[.slice (some ⟨g, o, none⟩) l.length c] 125))
  have F1 := Lib.hid hf1'
  obtain ⟨v1, hv1, hb1, hown⟩ := hr1
  rcases hb1.cases with ⟨_, e⟩ | ⟨g1, o1, c1, rfl, hc1, hg1, hx1⟩
  · have := congrArg List.length e
    simp at this
    omega
  clear hx1 hg1
  rw [List.length_drop] at hv1 hb1 hc1
  have q1 : w1.cell? ⟨w.heap.size, 0, none⟩ = some (.slice (some ⟨g1, o1, none⟩) (l.length - 4) c1) := cell_of hv1
  have q2 : w1.frozen? ⟨w.heap.size, 0, none⟩ = false := frozen_in hv1 0
  have V1 := Lib.hid hv1
  have B1 := Lib.hid hb1
  have O1 := Lib.hid (hown g1 rfl)
  clear hf1 hf1' hv1 hb1 hown R0
  by_cases hbig : l.length - 6 < n
  · have E : Hid (takeInf l = ([], [], 201)) := Lib.hid (by rw [takeInf, if_neg (by omega), infoN, HN.out, if_pos hbig])
    go_wp2_with fail
    go_returns
    unfold TookInf
    rw [E.out]
    exact ⟨_, rfl, Sl.nil _ _ _, Fr.of_below0 (F1.out.fresh (fun k hk e => by omega))⟩
  have hbn : n ≤ l.length - 6 := by omega
  have k1 := (BV.take B1.out n (by rw [List.length_drop]; omega)).str (P := Try.prog) (src := 125) (dst := 9) Try.underlying125 Try.underlying5 Try.underlying9
  obtain ⟨m, hm⟩ : ∃ m, infoM l = m := ⟨_, rfl⟩
  have hm4 := getN2 (infoRest l)
  rw [← infoM, hm] at hm4
  have HM := Lib.hid hm
  clear hm
  have R2 : Reader (w1.setCell ⟨w.heap.size, 0, none⟩ (.slice (some ⟨g1, o1 + n, none⟩) (l.length - 4 - n) (c1 - n))) w.heap.size (infoRest l) := by
    have := reader_drop (m := n) V1.out B1.out O1.out (by rw [List.length_drop]; omega) (some ⟨g1, o1 + n, none⟩) (by rw [if_neg (by omega)])
    rw [List.length_drop, List.drop_drop] at this
    rw [infoRest, infoN, HN.out]
    exact this
  have F2 := Lib.hid (F1.out.setB rfl 0 (.slice (some ⟨g1, o1 + n, none⟩) (l.length - 4 - n) (c1 - n)))
  have HR2 := Lib.hid R2
  clear R2
  have hrl : (infoRest l).length = l.length - 4 - n := by rw [infoRest, infoN, HN.out, List.length_drop]; omega
  have HRL := Lib.hid hrl
  clear hrl
  go_wp2_with (go_at_call 81; go_loud (refine (take_any _ 2 (infoRest l) _ HR2.out (by decide) (by decide) (by rw [HRL.out]; omega) (by rw [HRL.out]; omega)).mono ?_; rintro e w3 ⟨he, hr3, hf3⟩; rw [← infoM, HM.out] at he; subst he; have R3 := Lib.hid hr3; have F3 := Lib.hid (F2.out.trans hf3 (fun _ _ => id)); obtain ⟨a3, c3, hv3, hb3⟩ := hr3.val; have q3 : w3.cell? ⟨w.heap.size, 0, none⟩ = some (.slice a3 ((infoRest l).drop 2).length c3) := cell_of hv3; rw [List.length_drop, HRL.out] at q3; clear hr3 hf3 hv3 hb3))
  · have hne : l.length ≠ 6 + n + 2 * m := by
      have hb : (((l.length - 4 - n - 2 : Nat) : Int) != 2 * (m : Int)) = true := by assumption
      have : ((l.length - 4 - n - 2 : Nat) : Int) ≠ 2 * (m : Int) := by simpa using hb
      omega
    have E : Hid (takeInf l = ([], [], 201)) := Lib.hid (by rw [takeInf, if_neg (by omega), infoN, HN.out, if_neg (by omega), HM.out, if_pos hne])
    go_returns
    unfold TookInf
    rw [E.out]
    exact ⟨.slice none 0 0, rfl, Sl.nil _ _ _, Fr.of_below0 (F3.out.fresh (fun k hk e => by omega))⟩
  · have heq : l.length = 6 + n + 2 * m := by
      have hb : (((l.length - 4 - n - 2 : Nat) : Int) != 2 * (m : Int)) = false := by assumption
      have : ((l.length - 4 - n - 2 : Nat) : Int) = 2 * (m : Int) := by simpa using hb
      omega
    have hbq : (((l.length - 4 - n - 2 : Nat) : Int) != 2 * (m : Int)) = false := by assumption
    simp only [hbq]
    have E := Lib.hid (takeInf_ok h6 HN.out HM.out heq)
    have HQ := Lib.hid heq
    have hm2 : m ≤ 50000 := by omega
    obtain ⟨rest, hrest⟩ : ∃ rest, (infoRest l).drop 2 = rest := ⟨_, rfl⟩
    have hrl2 : rest.length = 2 * m := by rw [← hrest, List.length_drop, HRL.out]; omega
    have HR := Lib.hid hrest
    have HL2 := Lib.hid hrl2
    have R3' : Hid (Reader w3 w.heap.size rest) := Lib.hid (by rw [← hrest]; exact R3.out)
    clear heq hrest hrl2
    go_loopw [9] (fun v wr => ∃ k : Nat, k ≤ m ∧ Reader wr w.heap.size (rest.drop (2 * k)) ∧ Sl wr 3 1 v k (nv ((twos m rest).take k)) ∧ (∀ x, v.ownBlock = some x → w.heap.size < x) ∧ Fr (fun j => w.heap.size ≤ j) w wr) (fun _ wr => readLeft wr w.heap.size)
    case atStart => exact ⟨0, Nat.zero_le _, R3'.out, by simpa [nv] using Sl.nil _ _ _, (fun x hx => by cases hx), F3.out.mono (fun j _ e => by omega)⟩
    case round =>
      obtain ⟨k, hk, hr, hS, hO, hF⟩ := hrel
      obtain ⟨av, cv, rfl⟩ := hS.form
      obtain ⟨ar, cr, hv, hbv⟩ := hr.val
      have hlen : (rest.drop (2 * k)).length = 2 * m - 2 * k := by rw [List.length_drop, HL2.out]
      rw [hlen] at hv
      have qr : wr.cell? ⟨w.heap.size, 0, none⟩ = some (.slice ar (2 * m - 2 * k) cr) := cell_of hv
      have HLEN := Lib.hid hlen
      have KR := Lib.hid hr
      have KS := Lib.hid hS
      have KO := Lib.hid hO
      have KF := Lib.hid hF
      clear hr hS hO hF hv hbv hlen
      by_cases hkm : k < m
      · go_wp2_with (first
          | (at_builtin; refine wpList_append _ rfl (.tmp 38) (.tmp 41) 44 44 rfl 3 i0 (.int .i64 0) 1 8 Try.underlying44 hi hz0 hz1 hz2 rfl (by decide) (.slice av k cv) k (nv ((twos m rest).take k)) rfl ((KS.out.keep HF4.out (fun j hj e => by have := KO.out j hj; omega)).keep ((Fr.refl (fun _ => False) w4).alloc _) (fun _ _ => id)) (.slice (some ⟨w4.heap.size, 0, none⟩) 1 1) 1 [.int .i64 x] rfl ((Rd.block (xs := [.int .i64 x]) (heap_new w4 _) rfl).src Try.underlying44 (by simp [Value.oneCell'])) (by unfold maxLen; omega) (by omega) ?_; intro v' w5 hap; have HAP := Lib.hid hap; clear hap)
          | (go_at_call 81; go_loud (refine (take_any _ 2 (rest.drop (2 * k)) _ KR.out (by decide) (by decide) (by rw [HLEN.out]; omega) (by rw [HLEN.out]; omega)).mono ?_; rintro e w4 ⟨rfl, hr4, hf4⟩; have HR4 := Lib.hid hr4; have HF4 := Lib.hid hf4; have hg2 := getN2 (rest.drop (2 * k)); obtain ⟨x, hx⟩ : ∃ x, getN ((rest.drop (2 * k)).take 2) = x := ⟨_, rfl⟩; rw [hx] at hg2; rw [hx]; have HX := Lib.hid hx; clear hx hr4 hf4)))
        have X := info_step hkm HL2.out HX.out KR.out HR4.out HF4.out KO.out KF.out HAP.out
        obtain ⟨X0, X1, X2, X3, X4⟩ := X
        go_roundw
        case rel => exact ⟨k + 1, hkm, X1, X2, X3, X4⟩
        case measure => exact X0
      · have hkm' : k = m := by omega
        subst hkm'
        go_wp2_with fail
        go_returns
        unfold TookInf
        rw [E.out, HR.out]
        refine ⟨_, rfl, ?_, Fr.of_below0 (KF.out.fresh (fun j hj e => by omega))⟩
        have hs := KS.out
        have hl2 := twos_length k rest
        rw [List.take_of_length_le (by omega)] at hs
        rw [hl2]
        exact hs

theorem takeInfo_any (v : Value) (l : List UInt8) (w : World) (h : BV w v l) (hl : l.length ≤ 100000) : Calls Try.prog 94 #[v] w (TookInf l w) := by
  by_cases h6 : l.length < 6
  · exact takeInfo_few v l w h h6
  · exact takeInfo_many v l w h (by omega) hl

end Go.Proofs.Ytpelpmhopmefoaa
