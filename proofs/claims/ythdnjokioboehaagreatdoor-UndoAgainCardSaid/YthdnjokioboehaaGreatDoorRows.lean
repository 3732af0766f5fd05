/-
  NARROWER THAN 'FOR EVERY INPUT', by the rows' own cells (each row's printed sentence says how): UndoAgain: laid · UndoPlays: laid · UndoNil: laid · UndoApart: laid · UndoPast: laid · UndoUndone: laid · UndoWhole: laid · UndoNumbers: laid · UndoLoads: laid.
  DERIVED. THE GIVEN ROWS OF THIS SEAT. 9 by the template 'for every input the law returns true; each argument reads behind the call as it read before'; 0 by the template 'total and deterministic' (their statements: YthdnjokioboehaaGreatDoorTotals.lean).
  GIVEN WITH THE SEED: the statements are not yours to turn. If you find one false, say at which input.
  Laid BY PROGRAM, IN A SANDBOX (cutbox-rows.mjs): the forced cells as the released guide's own fill.sh prints them over the translation 0f4c4f7651c40684… (all of the seat's roots in one cut). By AI agents, Wed Nov 11 2026. No macro, syntax, notation, axiom, sorry.
-/
import Derived.Test.YthdnjokioboehaaGreatDoorChecked
import GoSem.Claim
import GoSem.ClaimJoined
import GoSem.ClaimMapViews
import Derived.JoinedTies
import Derived.KernelRfl
namespace Go.Proofs.YthdnjokioboehaaGreatDoor
/- THE CELL 'sum', in the pinned program and in every row, IS THE sha256 OF THE DUMP (.gsa) THAT YthdnjokioboehaaGreatDoorProg.lean LOADS. Nothing in Lean hashes anything: it is a label: what it is worth is what the hold of that sum in a sandbox is worth. -/
noncomputable def Tryz.pinned : Pinned := { name := "ythdnjokioboehaagreatdoor", sum := "0f4c4f7651c40684cb3eb7a21fe4bd015b3120144a470860a693a7cf19e8bba6", checked := Tryz.checked }
namespace Rows
def none {H : Type} : Left H := { results := [], args := [] }

/- WHAT THE LISTED PACKAGE-LEVEL VARIABLES READ AS WHEN THE CALL BEGINS. Each datum BY PROGRAM (the guide's laid-datum.mjs) off the statement by which the dump's own 'gosem.cut.vars' lays the variable. In a bare row this is a premise. The card (YthdnjokioboehaaGreatDoorCards.lean) ties it to the program's text. -/
def laid_justiciar_value_Null {H : Type} : DataW H := .agg [.lit (.int .i64 0), .lit (.int .i64 0), .lit (.string [])]

/-- 'justiciarlaw16.UndoAgain': WHATEVER THE INPUT: true; the input reads as it did. -/
def undoAgainSpec : ChangeSpec := { name := "undoAgain", fn := fun _ => fun
  | [d] => { results := [.lit (.bool true)], args := [d] }
  | _ => none }
def undoAgainRow : OpenClaim := { program := "ythdnjokioboehaagreatdoor", sum := "0f4c4f7651c40684cb3eb7a21fe4bd015b3120144a470860a693a7cf19e8bba6", func := "justiciar/justiciarlaw16.UndoAgain", spec := "undoAgain", unfollowed := true, recurses := true, named := ["justiciar/value.Null"], plainKeys := false, apart := false, laid := [("justiciar/value.Null", laid_justiciar_value_Null)] }
def UndoAgainSaid : Prop := undoAgainRow.holds Tryz.pinned (OpenSpec.ofChange undoAgainSpec)

/-- ITS FALSE NEIGHBOUR: 'it returns false'. Refute it at one input. -/
def undoAgainWrong : ChangeSpec := { name := "undoAgain", fn := fun _ => fun
  | [d] => { results := [.lit (.bool false)], args := [d] }
  | _ => none }
def UndoAgainWrongFalsely : Prop := undoAgainRow.holds Tryz.pinned (OpenSpec.ofChange undoAgainWrong)

/-- 'justiciarlaw16.UndoPlays': WHATEVER THE INPUT: true; the input reads as it did. -/
def undoPlaysSpec : ChangeSpec := { name := "undoPlays", fn := fun _ => fun
  | [d] => { results := [.lit (.bool true)], args := [d] }
  | _ => none }
def undoPlaysRow : OpenClaim := { program := "ythdnjokioboehaagreatdoor", sum := "0f4c4f7651c40684cb3eb7a21fe4bd015b3120144a470860a693a7cf19e8bba6", func := "justiciar/justiciarlaw16.UndoPlays", spec := "undoPlays", unfollowed := true, recurses := true, named := ["justiciar/value.Null"], plainKeys := false, apart := false, laid := [("justiciar/value.Null", laid_justiciar_value_Null)] }
def UndoPlaysSaid : Prop := undoPlaysRow.holds Tryz.pinned (OpenSpec.ofChange undoPlaysSpec)

/-- ITS FALSE NEIGHBOUR: 'it returns false'. Refute it at one input. -/
def undoPlaysWrong : ChangeSpec := { name := "undoPlays", fn := fun _ => fun
  | [d] => { results := [.lit (.bool false)], args := [d] }
  | _ => none }
def UndoPlaysWrongFalsely : Prop := undoPlaysRow.holds Tryz.pinned (OpenSpec.ofChange undoPlaysWrong)

/-- 'justiciarlaw16.UndoNil': WHATEVER THE INPUT: true; the input reads as it did. -/
def undoNilSpec : ChangeSpec := { name := "undoNil", fn := fun _ => fun
  | [d1, d2] => { results := [.lit (.bool true)], args := [d1, d2] }
  | _ => none }
def undoNilRow : OpenClaim := { program := "ythdnjokioboehaagreatdoor", sum := "0f4c4f7651c40684cb3eb7a21fe4bd015b3120144a470860a693a7cf19e8bba6", func := "justiciar/justiciarlaw16.UndoNil", spec := "undoNil", unfollowed := true, recurses := true, named := ["justiciar/value.Null"], plainKeys := false, apart := false, laid := [("justiciar/value.Null", laid_justiciar_value_Null)] }
def UndoNilSaid : Prop := undoNilRow.holds Tryz.pinned (OpenSpec.ofChange undoNilSpec)

/-- ITS FALSE NEIGHBOUR: 'it returns false'. Refute it at one input. -/
def undoNilWrong : ChangeSpec := { name := "undoNil", fn := fun _ => fun
  | [d1, d2] => { results := [.lit (.bool false)], args := [d1, d2] }
  | _ => none }
def UndoNilWrongFalsely : Prop := undoNilRow.holds Tryz.pinned (OpenSpec.ofChange undoNilWrong)

/-- 'justiciarlaw16.UndoApart': WHATEVER THE INPUT: true; the input reads as it did. -/
def undoApartSpec : ChangeSpec := { name := "undoApart", fn := fun _ => fun
  | [d1, d2, d3] => { results := [.lit (.bool true)], args := [d1, d2, d3] }
  | _ => none }
def undoApartRow : OpenClaim := { program := "ythdnjokioboehaagreatdoor", sum := "0f4c4f7651c40684cb3eb7a21fe4bd015b3120144a470860a693a7cf19e8bba6", func := "justiciar/justiciarlaw16.UndoApart", spec := "undoApart", unfollowed := true, recurses := true, named := ["justiciar/value.Null"], plainKeys := false, apart := false, laid := [("justiciar/value.Null", laid_justiciar_value_Null)] }
def UndoApartSaid : Prop := undoApartRow.holds Tryz.pinned (OpenSpec.ofChange undoApartSpec)

/-- ITS FALSE NEIGHBOUR: 'it returns false'. Refute it at one input. -/
def undoApartWrong : ChangeSpec := { name := "undoApart", fn := fun _ => fun
  | [d1, d2, d3] => { results := [.lit (.bool false)], args := [d1, d2, d3] }
  | _ => none }
def UndoApartWrongFalsely : Prop := undoApartRow.holds Tryz.pinned (OpenSpec.ofChange undoApartWrong)

/-- 'justiciarlaw16.UndoPast': WHATEVER THE INPUT: true; the input reads as it did. -/
def undoPastSpec : ChangeSpec := { name := "undoPast", fn := fun _ => fun
  | [d1, d2] => { results := [.lit (.bool true)], args := [d1, d2] }
  | _ => none }
def undoPastRow : OpenClaim := { program := "ythdnjokioboehaagreatdoor", sum := "0f4c4f7651c40684cb3eb7a21fe4bd015b3120144a470860a693a7cf19e8bba6", func := "justiciar/justiciarlaw16.UndoPast", spec := "undoPast", unfollowed := true, recurses := true, named := ["justiciar/value.Null"], plainKeys := false, apart := false, laid := [("justiciar/value.Null", laid_justiciar_value_Null)] }
def UndoPastSaid : Prop := undoPastRow.holds Tryz.pinned (OpenSpec.ofChange undoPastSpec)

/-- ITS FALSE NEIGHBOUR: 'it returns false'. Refute it at one input. -/
def undoPastWrong : ChangeSpec := { name := "undoPast", fn := fun _ => fun
  | [d1, d2] => { results := [.lit (.bool false)], args := [d1, d2] }
  | _ => none }
def UndoPastWrongFalsely : Prop := undoPastRow.holds Tryz.pinned (OpenSpec.ofChange undoPastWrong)

/-- 'justiciarlaw16.UndoUndone': WHATEVER THE INPUT: true; the input reads as it did. -/
def undoUndoneSpec : ChangeSpec := { name := "undoUndone", fn := fun _ => fun
  | [d1, d2, d3] => { results := [.lit (.bool true)], args := [d1, d2, d3] }
  | _ => none }
def undoUndoneRow : OpenClaim := { program := "ythdnjokioboehaagreatdoor", sum := "0f4c4f7651c40684cb3eb7a21fe4bd015b3120144a470860a693a7cf19e8bba6", func := "justiciar/justiciarlaw16.UndoUndone", spec := "undoUndone", unfollowed := true, recurses := true, named := ["justiciar/value.Null"], plainKeys := false, apart := false, laid := [("justiciar/value.Null", laid_justiciar_value_Null)] }
def UndoUndoneSaid : Prop := undoUndoneRow.holds Tryz.pinned (OpenSpec.ofChange undoUndoneSpec)

/-- ITS FALSE NEIGHBOUR: 'it returns false'. Refute it at one input. -/
def undoUndoneWrong : ChangeSpec := { name := "undoUndone", fn := fun _ => fun
  | [d1, d2, d3] => { results := [.lit (.bool false)], args := [d1, d2, d3] }
  | _ => none }
def UndoUndoneWrongFalsely : Prop := undoUndoneRow.holds Tryz.pinned (OpenSpec.ofChange undoUndoneWrong)

/-- 'justiciarlaw16.UndoWhole': WHATEVER THE INPUT: true; the input reads as it did. -/
def undoWholeSpec : ChangeSpec := { name := "undoWhole", fn := fun _ => fun
  | [d1, d2] => { results := [.lit (.bool true)], args := [d1, d2] }
  | _ => none }
def undoWholeRow : OpenClaim := { program := "ythdnjokioboehaagreatdoor", sum := "0f4c4f7651c40684cb3eb7a21fe4bd015b3120144a470860a693a7cf19e8bba6", func := "justiciar/justiciarlaw16.UndoWhole", spec := "undoWhole", unfollowed := true, recurses := true, named := ["justiciar/value.Null"], plainKeys := false, apart := false, laid := [("justiciar/value.Null", laid_justiciar_value_Null)] }
def UndoWholeSaid : Prop := undoWholeRow.holds Tryz.pinned (OpenSpec.ofChange undoWholeSpec)

/-- ITS FALSE NEIGHBOUR: 'it returns false'. Refute it at one input. -/
def undoWholeWrong : ChangeSpec := { name := "undoWhole", fn := fun _ => fun
  | [d1, d2] => { results := [.lit (.bool false)], args := [d1, d2] }
  | _ => none }
def UndoWholeWrongFalsely : Prop := undoWholeRow.holds Tryz.pinned (OpenSpec.ofChange undoWholeWrong)

/-- 'justiciarlaw16.UndoNumbers': WHATEVER THE INPUT: true; the input reads as it did. -/
def undoNumbersSpec : ChangeSpec := { name := "undoNumbers", fn := fun _ => fun
  | [d] => { results := [.lit (.bool true)], args := [d] }
  | _ => none }
def undoNumbersRow : OpenClaim := { program := "ythdnjokioboehaagreatdoor", sum := "0f4c4f7651c40684cb3eb7a21fe4bd015b3120144a470860a693a7cf19e8bba6", func := "justiciar/justiciarlaw16.UndoNumbers", spec := "undoNumbers", unfollowed := true, recurses := true, named := ["justiciar/value.Null"], plainKeys := false, apart := false, laid := [("justiciar/value.Null", laid_justiciar_value_Null)] }
def UndoNumbersSaid : Prop := undoNumbersRow.holds Tryz.pinned (OpenSpec.ofChange undoNumbersSpec)

/-- ITS FALSE NEIGHBOUR: 'it returns false'. Refute it at one input. -/
def undoNumbersWrong : ChangeSpec := { name := "undoNumbers", fn := fun _ => fun
  | [d] => { results := [.lit (.bool false)], args := [d] }
  | _ => none }
def UndoNumbersWrongFalsely : Prop := undoNumbersRow.holds Tryz.pinned (OpenSpec.ofChange undoNumbersWrong)

/-- 'justiciarlaw16.UndoLoads': WHATEVER THE INPUT: true; the input reads as it did. -/
def undoLoadsSpec : ChangeSpec := { name := "undoLoads", fn := fun _ => fun
  | [d1, d2] => { results := [.lit (.bool true)], args := [d1, d2] }
  | _ => none }
def undoLoadsRow : OpenClaim := { program := "ythdnjokioboehaagreatdoor", sum := "0f4c4f7651c40684cb3eb7a21fe4bd015b3120144a470860a693a7cf19e8bba6", func := "justiciar/justiciarlaw16.UndoLoads", spec := "undoLoads", unfollowed := true, recurses := true, named := ["justiciar/value.Null"], plainKeys := false, apart := false, laid := [("justiciar/value.Null", laid_justiciar_value_Null)] }
def UndoLoadsSaid : Prop := undoLoadsRow.holds Tryz.pinned (OpenSpec.ofChange undoLoadsSpec)

/-- ITS FALSE NEIGHBOUR: 'it returns false'. Refute it at one input. -/
def undoLoadsWrong : ChangeSpec := { name := "undoLoads", fn := fun _ => fun
  | [d1, d2] => { results := [.lit (.bool false)], args := [d1, d2] }
  | _ => none }
def UndoLoadsWrongFalsely : Prop := undoLoadsRow.holds Tryz.pinned (OpenSpec.ofChange undoLoadsWrong)

/- THE SECOND FORM. 'bulk': how many values and letters a reading holds, each counted each time it is reached (what is shared counts as often as it is met; a slice's spare places count too). A statement '..UptoSaid' is the law's where the arguments, and the package variables that the reading takes, are together of bulk at most 1048576: NARROWER than '..Said'. Prove '..Said' where nothing that the law and all that it calls make is longer than what came in: it says more and counts as full. Else prove '..UptoSaid'. A law counts once. -/
mutual
def uptoBulk {H : Type} : DataW H → Nat
  | .lit (.string bytes) => bytes.length + 1
  | .lit _ => 1
  | .nil => 1
  | .ptr d => uptoBulk d + 1
  | .slice elems spare => uptoBulkAll elems + uptoBulkAll spare + 1
  | .agg parts => uptoBulkAll parts + 1
  | .iface _ d => uptoBulk d + 1
  | .map entries => uptoBulkEntries entries + 1
  | .held _ => 1
def uptoBulkAll {H : Type} : List (DataW H) → Nat
  | [] => 0
  | d :: r => uptoBulk d + uptoBulkAll r
def uptoBulkEntries {H : Type} : List (Lit × DataW H) → Nat
  | [] => 0
  | x :: r => uptoBulkEntry x + uptoBulkEntries r
def uptoBulkEntry {H : Type} : Lit × DataW H → Nat
  | (.string bytes, d) => bytes.length + uptoBulk d + 1
  | (_, d) => uptoBulk d + 1
 end
def uptoSmall : (H : Type) → List (DataW H) → Bool := fun _ ds => decide (uptoBulkAll ds ≤ 1048576)
def OpenSpec.upto (s : _root_.Go.ChangeSpec) : _root_.Go.OpenSpec := { _root_.Go.OpenSpec.ofChange s with cond := some uptoSmall }

/-- 'justiciarlaw16.UndoAgain', WHERE WHAT IT READS IS OF BULK AT MOST 1048576: true; the input reads as it did. -/
def undoAgainUptoRow : OpenClaim := { program := "ythdnjokioboehaagreatdoor", sum := "0f4c4f7651c40684cb3eb7a21fe4bd015b3120144a470860a693a7cf19e8bba6", func := "justiciar/justiciarlaw16.UndoAgain", spec := "undoAgain", unfollowed := true, recurses := true, named := ["justiciar/value.Null"], plainKeys := false, apart := false, laid := [("justiciar/value.Null", laid_justiciar_value_Null)], narrowed := true }
def UndoAgainUptoSaid : Prop := undoAgainUptoRow.holds Tryz.pinned (OpenSpec.upto undoAgainSpec)

/-- 'justiciarlaw16.UndoPlays', WHERE WHAT IT READS IS OF BULK AT MOST 1048576: true; the input reads as it did. -/
def undoPlaysUptoRow : OpenClaim := { program := "ythdnjokioboehaagreatdoor", sum := "0f4c4f7651c40684cb3eb7a21fe4bd015b3120144a470860a693a7cf19e8bba6", func := "justiciar/justiciarlaw16.UndoPlays", spec := "undoPlays", unfollowed := true, recurses := true, named := ["justiciar/value.Null"], plainKeys := false, apart := false, laid := [("justiciar/value.Null", laid_justiciar_value_Null)], narrowed := true }
def UndoPlaysUptoSaid : Prop := undoPlaysUptoRow.holds Tryz.pinned (OpenSpec.upto undoPlaysSpec)

/-- 'justiciarlaw16.UndoNil', WHERE WHAT IT READS IS OF BULK AT MOST 1048576: true; the input reads as it did. -/
def undoNilUptoRow : OpenClaim := { program := "ythdnjokioboehaagreatdoor", sum := "0f4c4f7651c40684cb3eb7a21fe4bd015b3120144a470860a693a7cf19e8bba6", func := "justiciar/justiciarlaw16.UndoNil", spec := "undoNil", unfollowed := true, recurses := true, named := ["justiciar/value.Null"], plainKeys := false, apart := false, laid := [("justiciar/value.Null", laid_justiciar_value_Null)], narrowed := true }
def UndoNilUptoSaid : Prop := undoNilUptoRow.holds Tryz.pinned (OpenSpec.upto undoNilSpec)

/-- 'justiciarlaw16.UndoApart', WHERE WHAT IT READS IS OF BULK AT MOST 1048576: true; the input reads as it did. -/
def undoApartUptoRow : OpenClaim := { program := "ythdnjokioboehaagreatdoor", sum := "0f4c4f7651c40684cb3eb7a21fe4bd015b3120144a470860a693a7cf19e8bba6", func := "justiciar/justiciarlaw16.UndoApart", spec := "undoApart", unfollowed := true, recurses := true, named := ["justiciar/value.Null"], plainKeys := false, apart := false, laid := [("justiciar/value.Null", laid_justiciar_value_Null)], narrowed := true }
def UndoApartUptoSaid : Prop := undoApartUptoRow.holds Tryz.pinned (OpenSpec.upto undoApartSpec)

/-- 'justiciarlaw16.UndoPast', WHERE WHAT IT READS IS OF BULK AT MOST 1048576: true; the input reads as it did. -/
def undoPastUptoRow : OpenClaim := { program := "ythdnjokioboehaagreatdoor", sum := "0f4c4f7651c40684cb3eb7a21fe4bd015b3120144a470860a693a7cf19e8bba6", func := "justiciar/justiciarlaw16.UndoPast", spec := "undoPast", unfollowed := true, recurses := true, named := ["justiciar/value.Null"], plainKeys := false, apart := false, laid := [("justiciar/value.Null", laid_justiciar_value_Null)], narrowed := true }
def UndoPastUptoSaid : Prop := undoPastUptoRow.holds Tryz.pinned (OpenSpec.upto undoPastSpec)

/-- 'justiciarlaw16.UndoUndone', WHERE WHAT IT READS IS OF BULK AT MOST 1048576: true; the input reads as it did. -/
def undoUndoneUptoRow : OpenClaim := { program := "ythdnjokioboehaagreatdoor", sum := "0f4c4f7651c40684cb3eb7a21fe4bd015b3120144a470860a693a7cf19e8bba6", func := "justiciar/justiciarlaw16.UndoUndone", spec := "undoUndone", unfollowed := true, recurses := true, named := ["justiciar/value.Null"], plainKeys := false, apart := false, laid := [("justiciar/value.Null", laid_justiciar_value_Null)], narrowed := true }
def UndoUndoneUptoSaid : Prop := undoUndoneUptoRow.holds Tryz.pinned (OpenSpec.upto undoUndoneSpec)

/-- 'justiciarlaw16.UndoWhole', WHERE WHAT IT READS IS OF BULK AT MOST 1048576: true; the input reads as it did. -/
def undoWholeUptoRow : OpenClaim := { program := "ythdnjokioboehaagreatdoor", sum := "0f4c4f7651c40684cb3eb7a21fe4bd015b3120144a470860a693a7cf19e8bba6", func := "justiciar/justiciarlaw16.UndoWhole", spec := "undoWhole", unfollowed := true, recurses := true, named := ["justiciar/value.Null"], plainKeys := false, apart := false, laid := [("justiciar/value.Null", laid_justiciar_value_Null)], narrowed := true }
def UndoWholeUptoSaid : Prop := undoWholeUptoRow.holds Tryz.pinned (OpenSpec.upto undoWholeSpec)

/-- 'justiciarlaw16.UndoNumbers', WHERE WHAT IT READS IS OF BULK AT MOST 1048576: true; the input reads as it did. -/
def undoNumbersUptoRow : OpenClaim := { program := "ythdnjokioboehaagreatdoor", sum := "0f4c4f7651c40684cb3eb7a21fe4bd015b3120144a470860a693a7cf19e8bba6", func := "justiciar/justiciarlaw16.UndoNumbers", spec := "undoNumbers", unfollowed := true, recurses := true, named := ["justiciar/value.Null"], plainKeys := false, apart := false, laid := [("justiciar/value.Null", laid_justiciar_value_Null)], narrowed := true }
def UndoNumbersUptoSaid : Prop := undoNumbersUptoRow.holds Tryz.pinned (OpenSpec.upto undoNumbersSpec)

/-- 'justiciarlaw16.UndoLoads', WHERE WHAT IT READS IS OF BULK AT MOST 1048576: true; the input reads as it did. -/
def undoLoadsUptoRow : OpenClaim := { program := "ythdnjokioboehaagreatdoor", sum := "0f4c4f7651c40684cb3eb7a21fe4bd015b3120144a470860a693a7cf19e8bba6", func := "justiciar/justiciarlaw16.UndoLoads", spec := "undoLoads", unfollowed := true, recurses := true, named := ["justiciar/value.Null"], plainKeys := false, apart := false, laid := [("justiciar/value.Null", laid_justiciar_value_Null)], narrowed := true }
def UndoLoadsUptoSaid : Prop := undoLoadsUptoRow.holds Tryz.pinned (OpenSpec.upto undoLoadsSpec)

end Rows
end Go.Proofs.YthdnjokioboehaaGreatDoor
