/-
  No cell of these rows narrows 'for every input' (looked for: loops, veiled, ifaces, maps, wideKeys, modest, calm, conditions, laid).
  DERIVED. THE GIVEN ROWS OF THIS SEAT. 14 by the template 'for every input the law returns true; each argument reads behind the call as it read before'; 0 by the template 'total and deterministic' (their statements: YtpelpmhopmefoaaTotals.lean).
  GIVEN WITH THE SEED: the statements are not yours to turn. If you find one false, say at which input.
  Laid BY PROGRAM, IN A SANDBOX (cutbox-rows.mjs): the forced cells as the released guide's own fill.sh prints them over the translation f9cb13f8dbdf17a4… (all of the seat's roots in one cut). By AI agents, Wed Nov 11 2026. No macro, syntax, notation, axiom, sorry.
-/
import Derived.Test.YtpelpmhopmefoaaChecked
import GoSem.Claim
import GoSem.ClaimJoined
import GoSem.ClaimMapViews
import Derived.JoinedTies
import Derived.KernelRfl
namespace Go.Proofs.Ytpelpmhopmefoaa
/- THE CELL 'sum', in the pinned program and in every row, IS THE sha256 OF THE DUMP (.gsa) THAT YtpelpmhopmefoaaProg.lean LOADS. Nothing in Lean hashes anything: it is a label: what it is worth is what the hold of that sum in a sandbox is worth. -/
noncomputable def Try.pinned : Pinned := { name := "ytpelpmhopmefoaa", sum := "f9cb13f8dbdf17a4100d56a36fd44aef9ce56b058d27774afea7b2469e45f506", checked := Try.checked }
namespace Rows
def none {H : Type} : Left H := { results := [], args := [] }

/-- 'cofferdamlaw21.ShakeForms': WHATEVER THE INPUT: true; the input reads as it did. -/
def shakeFormsSpec : ChangeSpec := { name := "shakeForms", fn := fun _ => fun
  | [d1, d2] => { results := [.lit (.bool true)], args := [d1, d2] }
  | _ => none }
def shakeFormsRow : OpenClaim := { program := "ytpelpmhopmefoaa", sum := "f9cb13f8dbdf17a4100d56a36fd44aef9ce56b058d27774afea7b2469e45f506", func := "cofferdam/cofferdamlaw21.ShakeForms", spec := "shakeForms", apart := false }
def ShakeFormsSaid : Prop := shakeFormsRow.holds Try.pinned (OpenSpec.ofChange shakeFormsSpec)

/-- ITS FALSE NEIGHBOUR: 'it returns false'. Refute it at one input. -/
def shakeFormsWrong : ChangeSpec := { name := "shakeForms", fn := fun _ => fun
  | [d1, d2] => { results := [.lit (.bool false)], args := [d1, d2] }
  | _ => none }
def ShakeFormsWrongFalsely : Prop := shakeFormsRow.holds Try.pinned (OpenSpec.ofChange shakeFormsWrong)

/-- 'cofferdamlaw21.ShakeSays': WHATEVER THE INPUT: true; the input reads as it did. -/
def shakeSaysSpec : ChangeSpec := { name := "shakeSays", fn := fun _ => fun
  | [d1, d2] => { results := [.lit (.bool true)], args := [d1, d2] }
  | _ => none }
def shakeSaysRow : OpenClaim := { program := "ytpelpmhopmefoaa", sum := "f9cb13f8dbdf17a4100d56a36fd44aef9ce56b058d27774afea7b2469e45f506", func := "cofferdam/cofferdamlaw21.ShakeSays", spec := "shakeSays", apart := false }
def ShakeSaysSaid : Prop := shakeSaysRow.holds Try.pinned (OpenSpec.ofChange shakeSaysSpec)

/-- ITS FALSE NEIGHBOUR: 'it returns false'. Refute it at one input. -/
def shakeSaysWrong : ChangeSpec := { name := "shakeSays", fn := fun _ => fun
  | [d1, d2] => { results := [.lit (.bool false)], args := [d1, d2] }
  | _ => none }
def ShakeSaysWrongFalsely : Prop := shakeSaysRow.holds Try.pinned (OpenSpec.ofChange shakeSaysWrong)

/-- 'cofferdamlaw21.ShakeBits': WHATEVER THE INPUT: true; the input reads as it did. -/
def shakeBitsSpec : ChangeSpec := { name := "shakeBits", fn := fun _ => fun
  | [d1, d2, d3] => { results := [.lit (.bool true)], args := [d1, d2, d3] }
  | _ => none }
def shakeBitsRow : OpenClaim := { program := "ytpelpmhopmefoaa", sum := "f9cb13f8dbdf17a4100d56a36fd44aef9ce56b058d27774afea7b2469e45f506", func := "cofferdam/cofferdamlaw21.ShakeBits", spec := "shakeBits", apart := false }
def ShakeBitsSaid : Prop := shakeBitsRow.holds Try.pinned (OpenSpec.ofChange shakeBitsSpec)

/-- ITS FALSE NEIGHBOUR: 'it returns false'. Refute it at one input. -/
def shakeBitsWrong : ChangeSpec := { name := "shakeBits", fn := fun _ => fun
  | [d1, d2, d3] => { results := [.lit (.bool false)], args := [d1, d2, d3] }
  | _ => none }
def ShakeBitsWrongFalsely : Prop := shakeBitsRow.holds Try.pinned (OpenSpec.ofChange shakeBitsWrong)

/-- 'cofferdamlaw21.ShakeNil': WHATEVER THE INPUT: true; the input reads as it did. -/
def shakeNilSpec : ChangeSpec := { name := "shakeNil", fn := fun _ => fun
  | [d] => { results := [.lit (.bool true)], args := [d] }
  | _ => none }
def shakeNilRow : OpenClaim := { program := "ytpelpmhopmefoaa", sum := "f9cb13f8dbdf17a4100d56a36fd44aef9ce56b058d27774afea7b2469e45f506", func := "cofferdam/cofferdamlaw21.ShakeNil", spec := "shakeNil", apart := false }
def ShakeNilSaid : Prop := shakeNilRow.holds Try.pinned (OpenSpec.ofChange shakeNilSpec)

/-- ITS FALSE NEIGHBOUR: 'it returns false'. Refute it at one input. -/
def shakeNilWrong : ChangeSpec := { name := "shakeNil", fn := fun _ => fun
  | [d] => { results := [.lit (.bool false)], args := [d] }
  | _ => none }
def ShakeNilWrongFalsely : Prop := shakeNilRow.holds Try.pinned (OpenSpec.ofChange shakeNilWrong)

/-- 'cofferdamlaw21.ShakeUnknown': WHATEVER THE INPUT: true; the input reads as it did. -/
def shakeUnknownSpec : ChangeSpec := { name := "shakeUnknown", fn := fun _ => fun
  | [d1, d2, d3] => { results := [.lit (.bool true)], args := [d1, d2, d3] }
  | _ => none }
def shakeUnknownRow : OpenClaim := { program := "ytpelpmhopmefoaa", sum := "f9cb13f8dbdf17a4100d56a36fd44aef9ce56b058d27774afea7b2469e45f506", func := "cofferdam/cofferdamlaw21.ShakeUnknown", spec := "shakeUnknown", apart := false }
def ShakeUnknownSaid : Prop := shakeUnknownRow.holds Try.pinned (OpenSpec.ofChange shakeUnknownSpec)

/-- ITS FALSE NEIGHBOUR: 'it returns false'. Refute it at one input. -/
def shakeUnknownWrong : ChangeSpec := { name := "shakeUnknown", fn := fun _ => fun
  | [d1, d2, d3] => { results := [.lit (.bool false)], args := [d1, d2, d3] }
  | _ => none }
def ShakeUnknownWrongFalsely : Prop := shakeUnknownRow.holds Try.pinned (OpenSpec.ofChange shakeUnknownWrong)

/-- 'cofferdamlaw21.ShakeOver': WHATEVER THE INPUT: true; the input reads as it did. -/
def shakeOverSpec : ChangeSpec := { name := "shakeOver", fn := fun _ => fun
  | [d1, d2, d3] => { results := [.lit (.bool true)], args := [d1, d2, d3] }
  | _ => none }
def shakeOverRow : OpenClaim := { program := "ytpelpmhopmefoaa", sum := "f9cb13f8dbdf17a4100d56a36fd44aef9ce56b058d27774afea7b2469e45f506", func := "cofferdam/cofferdamlaw21.ShakeOver", spec := "shakeOver", apart := false }
def ShakeOverSaid : Prop := shakeOverRow.holds Try.pinned (OpenSpec.ofChange shakeOverSpec)

/-- ITS FALSE NEIGHBOUR: 'it returns false'. Refute it at one input. -/
def shakeOverWrong : ChangeSpec := { name := "shakeOver", fn := fun _ => fun
  | [d1, d2, d3] => { results := [.lit (.bool false)], args := [d1, d2, d3] }
  | _ => none }
def ShakeOverWrongFalsely : Prop := shakeOverRow.holds Try.pinned (OpenSpec.ofChange shakeOverWrong)

/-- 'cofferdamlaw22.SessionBounds': WHATEVER THE INPUT: true; the input reads as it did. -/
def sessionBoundsSpec : ChangeSpec := { name := "sessionBounds", fn := fun _ => fun
  | [d1, d2] => { results := [.lit (.bool true)], args := [d1, d2] }
  | _ => none }
def sessionBoundsRow : OpenClaim := { program := "ytpelpmhopmefoaa", sum := "f9cb13f8dbdf17a4100d56a36fd44aef9ce56b058d27774afea7b2469e45f506", func := "cofferdam/cofferdamlaw22.SessionBounds", spec := "sessionBounds", unfollowed := true, recurses := true, apart := false }
def SessionBoundsSaid : Prop := sessionBoundsRow.holds Try.pinned (OpenSpec.ofChange sessionBoundsSpec)

/-- ITS FALSE NEIGHBOUR: 'it returns false'. Refute it at one input. -/
def sessionBoundsWrong : ChangeSpec := { name := "sessionBounds", fn := fun _ => fun
  | [d1, d2] => { results := [.lit (.bool false)], args := [d1, d2] }
  | _ => none }
def SessionBoundsWrongFalsely : Prop := sessionBoundsRow.holds Try.pinned (OpenSpec.ofChange sessionBoundsWrong)

/-- 'cofferdamlaw22.SessionOrders': WHATEVER THE INPUT: true; the input reads as it did. -/
def sessionOrdersSpec : ChangeSpec := { name := "sessionOrders", fn := fun _ => fun
  | [d1, d2, d3] => { results := [.lit (.bool true)], args := [d1, d2, d3] }
  | _ => none }
def sessionOrdersRow : OpenClaim := { program := "ytpelpmhopmefoaa", sum := "f9cb13f8dbdf17a4100d56a36fd44aef9ce56b058d27774afea7b2469e45f506", func := "cofferdam/cofferdamlaw22.SessionOrders", spec := "sessionOrders", unfollowed := true, recurses := true, apart := false }
def SessionOrdersSaid : Prop := sessionOrdersRow.holds Try.pinned (OpenSpec.ofChange sessionOrdersSpec)

/-- ITS FALSE NEIGHBOUR: 'it returns false'. Refute it at one input. -/
def sessionOrdersWrong : ChangeSpec := { name := "sessionOrders", fn := fun _ => fun
  | [d1, d2, d3] => { results := [.lit (.bool false)], args := [d1, d2, d3] }
  | _ => none }
def SessionOrdersWrongFalsely : Prop := sessionOrdersRow.holds Try.pinned (OpenSpec.ofChange sessionOrdersWrong)

/-- 'cofferdamlaw22.SessionBits': WHATEVER THE INPUT: true; the input reads as it did. -/
def sessionBitsSpec : ChangeSpec := { name := "sessionBits", fn := fun _ => fun
  | [d1, d2, d3] => { results := [.lit (.bool true)], args := [d1, d2, d3] }
  | _ => none }
def sessionBitsRow : OpenClaim := { program := "ytpelpmhopmefoaa", sum := "f9cb13f8dbdf17a4100d56a36fd44aef9ce56b058d27774afea7b2469e45f506", func := "cofferdam/cofferdamlaw22.SessionBits", spec := "sessionBits", unfollowed := true, recurses := true, apart := false }
def SessionBitsSaid : Prop := sessionBitsRow.holds Try.pinned (OpenSpec.ofChange sessionBitsSpec)

/-- ITS FALSE NEIGHBOUR: 'it returns false'. Refute it at one input. -/
def sessionBitsWrong : ChangeSpec := { name := "sessionBits", fn := fun _ => fun
  | [d1, d2, d3] => { results := [.lit (.bool false)], args := [d1, d2, d3] }
  | _ => none }
def SessionBitsWrongFalsely : Prop := sessionBitsRow.holds Try.pinned (OpenSpec.ofChange sessionBitsWrong)

/-- 'cofferdamlaw22.SessionOnce': WHATEVER THE INPUT: true; the input reads as it did. -/
def sessionOnceSpec : ChangeSpec := { name := "sessionOnce", fn := fun _ => fun
  | [d1, d2] => { results := [.lit (.bool true)], args := [d1, d2] }
  | _ => none }
def sessionOnceRow : OpenClaim := { program := "ytpelpmhopmefoaa", sum := "f9cb13f8dbdf17a4100d56a36fd44aef9ce56b058d27774afea7b2469e45f506", func := "cofferdam/cofferdamlaw22.SessionOnce", spec := "sessionOnce", unfollowed := true, recurses := true, apart := false }
def SessionOnceSaid : Prop := sessionOnceRow.holds Try.pinned (OpenSpec.ofChange sessionOnceSpec)

/-- ITS FALSE NEIGHBOUR: 'it returns false'. Refute it at one input. -/
def sessionOnceWrong : ChangeSpec := { name := "sessionOnce", fn := fun _ => fun
  | [d1, d2] => { results := [.lit (.bool false)], args := [d1, d2] }
  | _ => none }
def SessionOnceWrongFalsely : Prop := sessionOnceRow.holds Try.pinned (OpenSpec.ofChange sessionOnceWrong)

/-- 'cofferdamlaw22.SessionLeaves': WHATEVER THE INPUT: true; the input reads as it did. -/
def sessionLeavesSpec : ChangeSpec := { name := "sessionLeaves", fn := fun _ => fun
  | [d1, d2] => { results := [.lit (.bool true)], args := [d1, d2] }
  | _ => none }
def sessionLeavesRow : OpenClaim := { program := "ytpelpmhopmefoaa", sum := "f9cb13f8dbdf17a4100d56a36fd44aef9ce56b058d27774afea7b2469e45f506", func := "cofferdam/cofferdamlaw22.SessionLeaves", spec := "sessionLeaves", unfollowed := true, recurses := true, apart := false }
def SessionLeavesSaid : Prop := sessionLeavesRow.holds Try.pinned (OpenSpec.ofChange sessionLeavesSpec)

/-- ITS FALSE NEIGHBOUR: 'it returns false'. Refute it at one input. -/
def sessionLeavesWrong : ChangeSpec := { name := "sessionLeaves", fn := fun _ => fun
  | [d1, d2] => { results := [.lit (.bool false)], args := [d1, d2] }
  | _ => none }
def SessionLeavesWrongFalsely : Prop := sessionLeavesRow.holds Try.pinned (OpenSpec.ofChange sessionLeavesWrong)

/-- 'cofferdamlaw22.SessionSkips': WHATEVER THE INPUT: true; the input reads as it did. -/
def sessionSkipsSpec : ChangeSpec := { name := "sessionSkips", fn := fun _ => fun
  | [d1, d2, d3] => { results := [.lit (.bool true)], args := [d1, d2, d3] }
  | _ => none }
def sessionSkipsRow : OpenClaim := { program := "ytpelpmhopmefoaa", sum := "f9cb13f8dbdf17a4100d56a36fd44aef9ce56b058d27774afea7b2469e45f506", func := "cofferdam/cofferdamlaw22.SessionSkips", spec := "sessionSkips", unfollowed := true, recurses := true, apart := false }
def SessionSkipsSaid : Prop := sessionSkipsRow.holds Try.pinned (OpenSpec.ofChange sessionSkipsSpec)

/-- ITS FALSE NEIGHBOUR: 'it returns false'. Refute it at one input. -/
def sessionSkipsWrong : ChangeSpec := { name := "sessionSkips", fn := fun _ => fun
  | [d1, d2, d3] => { results := [.lit (.bool false)], args := [d1, d2, d3] }
  | _ => none }
def SessionSkipsWrongFalsely : Prop := sessionSkipsRow.holds Try.pinned (OpenSpec.ofChange sessionSkipsWrong)

/-- 'cofferdamlaw22.SessionPlays': WHATEVER THE INPUT: true; the input reads as it did. -/
def sessionPlaysSpec : ChangeSpec := { name := "sessionPlays", fn := fun _ => fun
  | [d1, d2] => { results := [.lit (.bool true)], args := [d1, d2] }
  | _ => none }
def sessionPlaysRow : OpenClaim := { program := "ytpelpmhopmefoaa", sum := "f9cb13f8dbdf17a4100d56a36fd44aef9ce56b058d27774afea7b2469e45f506", func := "cofferdam/cofferdamlaw22.SessionPlays", spec := "sessionPlays", unfollowed := true, recurses := true, apart := false }
def SessionPlaysSaid : Prop := sessionPlaysRow.holds Try.pinned (OpenSpec.ofChange sessionPlaysSpec)

/-- ITS FALSE NEIGHBOUR: 'it returns false'. Refute it at one input. -/
def sessionPlaysWrong : ChangeSpec := { name := "sessionPlays", fn := fun _ => fun
  | [d1, d2] => { results := [.lit (.bool false)], args := [d1, d2] }
  | _ => none }
def SessionPlaysWrongFalsely : Prop := sessionPlaysRow.holds Try.pinned (OpenSpec.ofChange sessionPlaysWrong)

/-- 'cofferdamlaw22.SessionNil': WHATEVER THE INPUT: true; the input reads as it did. -/
def sessionNilSpec : ChangeSpec := { name := "sessionNil", fn := fun _ => fun
  | [d1, d2] => { results := [.lit (.bool true)], args := [d1, d2] }
  | _ => none }
def sessionNilRow : OpenClaim := { program := "ytpelpmhopmefoaa", sum := "f9cb13f8dbdf17a4100d56a36fd44aef9ce56b058d27774afea7b2469e45f506", func := "cofferdam/cofferdamlaw22.SessionNil", spec := "sessionNil", unfollowed := true, recurses := true, apart := false }
def SessionNilSaid : Prop := sessionNilRow.holds Try.pinned (OpenSpec.ofChange sessionNilSpec)

/-- ITS FALSE NEIGHBOUR: 'it returns false'. Refute it at one input. -/
def sessionNilWrong : ChangeSpec := { name := "sessionNil", fn := fun _ => fun
  | [d1, d2] => { results := [.lit (.bool false)], args := [d1, d2] }
  | _ => none }
def SessionNilWrongFalsely : Prop := sessionNilRow.holds Try.pinned (OpenSpec.ofChange sessionNilWrong)

/- THE SECOND FORM. 'bulk': how many values and letters a reading holds, each counted each time it is reached (what is shared counts as often as it is met; a slice's spare places count too). A statement '..UptoSaid' is the law's where the arguments, and the package variables that the reading takes, are together of bulk at most 1048576: NARROWER than '..Said'. Prove '..Said' where nothing that the law and all that it calls make is longer than what came in: it says more and counts as full. Else prove '..UptoSaid'. A law counts once. -/
mutual
def uptoBulk {H : Type} : DataW H → Nat
  | .lit (.string bytes) => bytes.length + 1
  | .lit _ => 1
  | .nil => 1
  | .ptr d => uptoBulk d + 1
  | .slice elems spare => uptoBulkAll elems + uptoBulkAll spare + 1
  | .agg parts => uptoBulkAll parts + 1
  | .iface _ d => uptoBulk d + 1
  | .map entries => uptoBulkEntries entries + 1
  | .held _ => 1
def uptoBulkAll {H : Type} : List (DataW H) → Nat
  | [] => 0
  | d :: r => uptoBulk d + uptoBulkAll r
def uptoBulkEntries {H : Type} : List (Lit × DataW H) → Nat
  | [] => 0
  | x :: r => uptoBulkEntry x + uptoBulkEntries r
def uptoBulkEntry {H : Type} : Lit × DataW H → Nat
  | (.string bytes, d) => bytes.length + uptoBulk d + 1
  | (_, d) => uptoBulk d + 1
 end
def uptoSmall : (H : Type) → List (DataW H) → Bool := fun _ ds => decide (uptoBulkAll ds ≤ 1048576)
def OpenSpec.upto (s : _root_.Go.ChangeSpec) : _root_.Go.OpenSpec := { _root_.Go.OpenSpec.ofChange s with cond := some uptoSmall }

/-- 'cofferdamlaw21.ShakeForms', WHERE WHAT IT READS IS OF BULK AT MOST 1048576: true; the input reads as it did. -/
def shakeFormsUptoRow : OpenClaim := { program := "ytpelpmhopmefoaa", sum := "f9cb13f8dbdf17a4100d56a36fd44aef9ce56b058d27774afea7b2469e45f506", func := "cofferdam/cofferdamlaw21.ShakeForms", spec := "shakeForms", apart := false, narrowed := true }
def ShakeFormsUptoSaid : Prop := shakeFormsUptoRow.holds Try.pinned (OpenSpec.upto shakeFormsSpec)

/-- 'cofferdamlaw21.ShakeSays', WHERE WHAT IT READS IS OF BULK AT MOST 1048576: true; the input reads as it did. -/
def shakeSaysUptoRow : OpenClaim := { program := "ytpelpmhopmefoaa", sum := "f9cb13f8dbdf17a4100d56a36fd44aef9ce56b058d27774afea7b2469e45f506", func := "cofferdam/cofferdamlaw21.ShakeSays", spec := "shakeSays", apart := false, narrowed := true }
def ShakeSaysUptoSaid : Prop := shakeSaysUptoRow.holds Try.pinned (OpenSpec.upto shakeSaysSpec)

/-- 'cofferdamlaw21.ShakeBits', WHERE WHAT IT READS IS OF BULK AT MOST 1048576: true; the input reads as it did. -/
def shakeBitsUptoRow : OpenClaim := { program := "ytpelpmhopmefoaa", sum := "f9cb13f8dbdf17a4100d56a36fd44aef9ce56b058d27774afea7b2469e45f506", func := "cofferdam/cofferdamlaw21.ShakeBits", spec := "shakeBits", apart := false, narrowed := true }
def ShakeBitsUptoSaid : Prop := shakeBitsUptoRow.holds Try.pinned (OpenSpec.upto shakeBitsSpec)

/-- 'cofferdamlaw21.ShakeNil', WHERE WHAT IT READS IS OF BULK AT MOST 1048576: true; the input reads as it did. -/
def shakeNilUptoRow : OpenClaim := { program := "ytpelpmhopmefoaa", sum := "f9cb13f8dbdf17a4100d56a36fd44aef9ce56b058d27774afea7b2469e45f506", func := "cofferdam/cofferdamlaw21.ShakeNil", spec := "shakeNil", apart := false, narrowed := true }
def ShakeNilUptoSaid : Prop := shakeNilUptoRow.holds Try.pinned (OpenSpec.upto shakeNilSpec)

/-- 'cofferdamlaw21.ShakeUnknown', WHERE WHAT IT READS IS OF BULK AT MOST 1048576: true; the input reads as it did. -/
def shakeUnknownUptoRow : OpenClaim := { program := "ytpelpmhopmefoaa", sum := "f9cb13f8dbdf17a4100d56a36fd44aef9ce56b058d27774afea7b2469e45f506", func := "cofferdam/cofferdamlaw21.ShakeUnknown", spec := "shakeUnknown", apart := false, narrowed := true }
def ShakeUnknownUptoSaid : Prop := shakeUnknownUptoRow.holds Try.pinned (OpenSpec.upto shakeUnknownSpec)

/-- 'cofferdamlaw21.ShakeOver', WHERE WHAT IT READS IS OF BULK AT MOST 1048576: true; the input reads as it did. -/
def shakeOverUptoRow : OpenClaim := { program := "ytpelpmhopmefoaa", sum := "f9cb13f8dbdf17a4100d56a36fd44aef9ce56b058d27774afea7b2469e45f506", func := "cofferdam/cofferdamlaw21.ShakeOver", spec := "shakeOver", apart := false, narrowed := true }
def ShakeOverUptoSaid : Prop := shakeOverUptoRow.holds Try.pinned (OpenSpec.upto shakeOverSpec)

/-- 'cofferdamlaw22.SessionBounds', WHERE WHAT IT READS IS OF BULK AT MOST 1048576: true; the input reads as it did. -/
def sessionBoundsUptoRow : OpenClaim := { program := "ytpelpmhopmefoaa", sum := "f9cb13f8dbdf17a4100d56a36fd44aef9ce56b058d27774afea7b2469e45f506", func := "cofferdam/cofferdamlaw22.SessionBounds", spec := "sessionBounds", unfollowed := true, recurses := true, apart := false, narrowed := true }
def SessionBoundsUptoSaid : Prop := sessionBoundsUptoRow.holds Try.pinned (OpenSpec.upto sessionBoundsSpec)

/-- 'cofferdamlaw22.SessionOrders', WHERE WHAT IT READS IS OF BULK AT MOST 1048576: true; the input reads as it did. -/
def sessionOrdersUptoRow : OpenClaim := { program := "ytpelpmhopmefoaa", sum := "f9cb13f8dbdf17a4100d56a36fd44aef9ce56b058d27774afea7b2469e45f506", func := "cofferdam/cofferdamlaw22.SessionOrders", spec := "sessionOrders", unfollowed := true, recurses := true, apart := false, narrowed := true }
def SessionOrdersUptoSaid : Prop := sessionOrdersUptoRow.holds Try.pinned (OpenSpec.upto sessionOrdersSpec)

/-- 'cofferdamlaw22.SessionBits', WHERE WHAT IT READS IS OF BULK AT MOST 1048576: true; the input reads as it did. -/
def sessionBitsUptoRow : OpenClaim := { program := "ytpelpmhopmefoaa", sum := "f9cb13f8dbdf17a4100d56a36fd44aef9ce56b058d27774afea7b2469e45f506", func := "cofferdam/cofferdamlaw22.SessionBits", spec := "sessionBits", unfollowed := true, recurses := true, apart := false, narrowed := true }
def SessionBitsUptoSaid : Prop := sessionBitsUptoRow.holds Try.pinned (OpenSpec.upto sessionBitsSpec)

/-- 'cofferdamlaw22.SessionOnce', WHERE WHAT IT READS IS OF BULK AT MOST 1048576: true; the input reads as it did. -/
def sessionOnceUptoRow : OpenClaim := { program := "ytpelpmhopmefoaa", sum := "f9cb13f8dbdf17a4100d56a36fd44aef9ce56b058d27774afea7b2469e45f506", func := "cofferdam/cofferdamlaw22.SessionOnce", spec := "sessionOnce", unfollowed := true, recurses := true, apart := false, narrowed := true }
def SessionOnceUptoSaid : Prop := sessionOnceUptoRow.holds Try.pinned (OpenSpec.upto sessionOnceSpec)

/-- 'cofferdamlaw22.SessionLeaves', WHERE WHAT IT READS IS OF BULK AT MOST 1048576: true; the input reads as it did. -/
def sessionLeavesUptoRow : OpenClaim := { program := "ytpelpmhopmefoaa", sum := "f9cb13f8dbdf17a4100d56a36fd44aef9ce56b058d27774afea7b2469e45f506", func := "cofferdam/cofferdamlaw22.SessionLeaves", spec := "sessionLeaves", unfollowed := true, recurses := true, apart := false, narrowed := true }
def SessionLeavesUptoSaid : Prop := sessionLeavesUptoRow.holds Try.pinned (OpenSpec.upto sessionLeavesSpec)

/-- 'cofferdamlaw22.SessionSkips', WHERE WHAT IT READS IS OF BULK AT MOST 1048576: true; the input reads as it did. -/
def sessionSkipsUptoRow : OpenClaim := { program := "ytpelpmhopmefoaa", sum := "f9cb13f8dbdf17a4100d56a36fd44aef9ce56b058d27774afea7b2469e45f506", func := "cofferdam/cofferdamlaw22.SessionSkips", spec := "sessionSkips", unfollowed := true, recurses := true, apart := false, narrowed := true }
def SessionSkipsUptoSaid : Prop := sessionSkipsUptoRow.holds Try.pinned (OpenSpec.upto sessionSkipsSpec)

/-- 'cofferdamlaw22.SessionPlays', WHERE WHAT IT READS IS OF BULK AT MOST 1048576: true; the input reads as it did. -/
def sessionPlaysUptoRow : OpenClaim := { program := "ytpelpmhopmefoaa", sum := "f9cb13f8dbdf17a4100d56a36fd44aef9ce56b058d27774afea7b2469e45f506", func := "cofferdam/cofferdamlaw22.SessionPlays", spec := "sessionPlays", unfollowed := true, recurses := true, apart := false, narrowed := true }
def SessionPlaysUptoSaid : Prop := sessionPlaysUptoRow.holds Try.pinned (OpenSpec.upto sessionPlaysSpec)

/-- 'cofferdamlaw22.SessionNil', WHERE WHAT IT READS IS OF BULK AT MOST 1048576: true; the input reads as it did. -/
def sessionNilUptoRow : OpenClaim := { program := "ytpelpmhopmefoaa", sum := "f9cb13f8dbdf17a4100d56a36fd44aef9ce56b058d27774afea7b2469e45f506", func := "cofferdam/cofferdamlaw22.SessionNil", spec := "sessionNil", unfollowed := true, recurses := true, apart := false, narrowed := true }
def SessionNilUptoSaid : Prop := sessionNilUptoRow.holds Try.pinned (OpenSpec.upto sessionNilSpec)

end Rows
end Go.Proofs.Ytpelpmhopmefoaa
