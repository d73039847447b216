/-
A walk through a region that draws its order: guards decided by the kernel. No program in sight.
-/
import Derived.Test.YtpelpmhopmefoaaDraw2
namespace Go.Cof
theorem if_yes {c : Bool} {A B : Prop} (h : c = true) (hA : A) : if c = true then A else B := by rw [if_pos h]; exact hA
theorem if_no {c : Bool} {A B : Prop} (h : c = false) (hB : B) : if c = true then A else B := by rw [if_neg (by simp [h])]; exact hB
section
variable {P : Program} {ops : Array Oper} {Q : Exit → Act → World → Prop} {pend : List Nat} {fuel : Nat} {listed : Array Bool} {a : Act} {w : World} {oi : Oper}
/-- An operation whose guard shuts it out. -/
theorem wpY_skip {P : Program} {ops : Array Oper} {Q : Exit → Act → World → Prop} {pend : List Nat} {fuel : Nat} {listed : Array Bool} {a : Act} {w : World} {oi : Oper} (i : Nat) (hi : ops[i]? = some oi) (hc : takeOk ops pend listed i = true) (hn : Region.wanted oi (yielded ops a.tmps) = false)
    (h : ∀ K : Act → World → Prop, (∀ a', wpY P ops Q pend fuel (listed.setIfInBounds i true) a' w → K a' w) → K (a.put oi.dst undef) w) : wpY P ops Q pend (fuel + 1) listed a w := by
  intro hag hcl
  obtain ⟨h1, h2, h3, h4, h5⟩ := takeOk_spec hi hc
  exact wpX_firstP hi (Region.noSelect_spec h1) fuel pend listed a w undef hcl (Region.free_spec hi h2) h4 h3 (.inr ⟨hn, rfl⟩) hag
    (h (fun a' w' => wpY P ops Q pend fuel (listed.setIfInBounds i true) a' w') (fun _ x => x) (fun k hk => again_put (Region.noSelect_spec h1) k a w undef (h4 k hk) (hag k hk)) (hcl.set h3))
theorem wpY_pureY (i : Nat) (hi : ops[i]? = some oi) (hc : takeOk ops pend listed i = true) (hp : (pureAt P a oi.op && valOp oi.op) = true) (hy : Region.wanted oi (yielded ops a.tmps) = true)
    (h : ∀ K : Act → World → Prop, (∀ a', wpY P ops Q pend fuel (listed.setIfInBounds i true) a' w → K a' w) → oi.wp P a w K (fun _ _ _ => False)) : wpY P ops Q pend (fuel + 1) listed a w :=
  wpY_pure i hi hc hp fun K hK => if_yes hy (h K hK)
theorem wpY_readY (i : Nat) (hi : ops[i]? = some oi) (hc : takeOk ops pend listed i = true) (hv : valOp oi.op = true) (hy : Region.wanted oi (yielded ops a.tmps) = true)
    (h : ∀ K : Act → World → Prop, (∀ a', wpY P ops Q (i :: pend) fuel (listed.setIfInBounds i true) a' w → K a' w) → oi.wp P a w K (fun _ _ _ => False)) : wpY P ops Q pend (fuel + 1) listed a w :=
  wpY_read i hi hc hv fun K hK => if_yes hy (h K hK)
theorem wpY_oneY (i : Nat) (pend' : List Nat) (hj : ops[i]? = some oi) (hr : Region.ready .any ops listed = [i]) (hp : (pend.filter fun k => !binds ops k i) = pend') (hy : Region.wanted oi (yielded ops a.tmps) = true)
    (h : ∀ K : Act → World → Prop, (∀ a' w', AgainL P ops pend' a' w' ∧ wpY P ops Q pend' fuel (listed.setIfInBounds i true) a' w' → K a' w') → oi.wp P a w K (NoPanic Q)) : wpY P ops Q pend (fuel + 1) listed a w :=
  wpY_one i pend' hj hr hp fun K hK => if_yes hy (h K hK)
theorem wpY_oneN (i : Nat) (pend' : List Nat) (hj : ops[i]? = some oi) (hr : Region.ready .any ops listed = [i]) (hp : (pend.filter fun k => !binds ops k i) = pend') (hn : Region.wanted oi (yielded ops a.tmps) = false)
    (h : ∀ K : Act → World → Prop, (∀ a' w', AgainL P ops pend' a' w' ∧ wpY P ops Q pend' fuel (listed.setIfInBounds i true) a' w' → K a' w') → K (a.put oi.dst undef) w) : wpY P ops Q pend (fuel + 1) listed a w :=
  wpY_one i pend' hj hr hp fun K hK => if_no hn (h K hK)
theorem again_runY {k : Nat} {ok : Oper} (hk : ops[k]? = some ok) (hv : valOp ok.op = true) (hy : Region.wanted ok (yielded ops a.tmps) = true)
    (h : ∀ K : Act → World → Prop, (∀ _ : True, K a w) → ok.wp P a w K (fun _ _ _ => False)) : Again P ops k a w :=
  again_run hk hv fun K hK => if_yes hy (h K hK)
end
end Go.Cof
