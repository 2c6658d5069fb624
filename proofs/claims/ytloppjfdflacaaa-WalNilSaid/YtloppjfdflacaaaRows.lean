/-
  No cell of these rows narrows 'for every input' (looked for: loops, veiled, ifaces, maps, wideKeys, modest, calm, conditions, laid).
  DERIVED. THE GIVEN ROWS OF THIS SEAT. 5 by the template 'for every input the law returns true; each argument reads behind the call as it read before'; 0 by the template 'total and deterministic' (their statements: YtloppjfdflacaaaTotals.lean).
  GIVEN WITH THE SEED: the statements are not yours to turn. If you find one false, say at which input.
  Laid BY PROGRAM, IN A SANDBOX (cutbox-rows.mjs): the forced cells as the released guide's own fill.sh prints them over the translation 841b4396304ddf02… (all of the seat's roots in one cut). By AI agents, Wed Nov 11 2026. No macro, syntax, notation, axiom, sorry.
-/
import Derived.Test.YtloppjfdflacaaaChecked
import GoSem.Claim
import GoSem.ClaimJoined
import GoSem.ClaimMapViews
import Derived.JoinedTies
import Derived.KernelRfl
namespace Go.Proofs.Ytloppjfdflacaaa
/- THE CELL 'sum', in the pinned program and in every row, IS THE sha256 OF THE DUMP (.gsa) THAT YtloppjfdflacaaaProg.lean LOADS. Nothing in Lean hashes anything: it is a label: what it is worth is what the hold of that sum in a sandbox is worth. -/
noncomputable def Try.pinned : Pinned := { name := "ytloppjfdflacaaa", sum := "841b4396304ddf02b79c19991cef3452db1c2c260760045bfbc22d7019df5748", checked := Try.checked }
namespace Rows
def none {H : Type} : Left H := { results := [], args := [] }

/-- 'lexiconlaw02.DiskNil': WHATEVER THE INPUT: true; the input reads as it did. -/
def diskNilSpec : ChangeSpec := { name := "diskNil", fn := fun _ => fun
  | [d1, d2, d3] => { results := [.lit (.bool true)], args := [d1, d2, d3] }
  | _ => none }
def diskNilRow : OpenClaim := { program := "ytloppjfdflacaaa", sum := "841b4396304ddf02b79c19991cef3452db1c2c260760045bfbc22d7019df5748", func := "lexicon/lexiconlaw02.DiskNil", spec := "diskNil", inPlace := ["maps.clone"], unfollowed := true, recurses := true, plainKeys := false, apart := false }
def DiskNilSaid : Prop := diskNilRow.holds Try.pinned (OpenSpec.ofChange diskNilSpec)

/-- ITS FALSE NEIGHBOUR: 'it returns false'. Refute it at one input. -/
def diskNilWrong : ChangeSpec := { name := "diskNil", fn := fun _ => fun
  | [d1, d2, d3] => { results := [.lit (.bool false)], args := [d1, d2, d3] }
  | _ => none }
def DiskNilWrongFalsely : Prop := diskNilRow.holds Try.pinned (OpenSpec.ofChange diskNilWrong)

/-- 'lexiconlaw03.WalNil': WHATEVER THE INPUT: true; the input reads as it did. -/
def walNilSpec : ChangeSpec := { name := "walNil", fn := fun _ => fun
  | [d1, d2, d3] => { results := [.lit (.bool true)], args := [d1, d2, d3] }
  | _ => none }
def walNilRow : OpenClaim := { program := "ytloppjfdflacaaa", sum := "841b4396304ddf02b79c19991cef3452db1c2c260760045bfbc22d7019df5748", func := "lexicon/lexiconlaw03.WalNil", spec := "walNil", unfollowed := true, recurses := true, plainKeys := false, apart := false }
def WalNilSaid : Prop := walNilRow.holds Try.pinned (OpenSpec.ofChange walNilSpec)

/-- ITS FALSE NEIGHBOUR: 'it returns false'. Refute it at one input. -/
def walNilWrong : ChangeSpec := { name := "walNil", fn := fun _ => fun
  | [d1, d2, d3] => { results := [.lit (.bool false)], args := [d1, d2, d3] }
  | _ => none }
def WalNilWrongFalsely : Prop := walNilRow.holds Try.pinned (OpenSpec.ofChange walNilWrong)

/-- 'lexiconlaw23.RefsCompare': WHATEVER THE INPUT: true; the input reads as it did. -/
def refsCompareSpec : ChangeSpec := { name := "refsCompare", fn := fun _ => fun
  | [d1, d2, d3] => { results := [.lit (.bool true)], args := [d1, d2, d3] }
  | _ => none }
def refsCompareRow : OpenClaim := { program := "ytloppjfdflacaaa", sum := "841b4396304ddf02b79c19991cef3452db1c2c260760045bfbc22d7019df5748", func := "lexicon/lexiconlaw23.RefsCompare", spec := "refsCompare", unfollowed := true, recurses := true, plainKeys := false, apart := false }
def RefsCompareSaid : Prop := refsCompareRow.holds Try.pinned (OpenSpec.ofChange refsCompareSpec)

/-- ITS FALSE NEIGHBOUR: 'it returns false'. Refute it at one input. -/
def refsCompareWrong : ChangeSpec := { name := "refsCompare", fn := fun _ => fun
  | [d1, d2, d3] => { results := [.lit (.bool false)], args := [d1, d2, d3] }
  | _ => none }
def RefsCompareWrongFalsely : Prop := refsCompareRow.holds Try.pinned (OpenSpec.ofChange refsCompareWrong)

/-- 'lexiconlaw23.RefsNil': WHATEVER THE INPUT: true; the input reads as it did. -/
def refsNilSpec : ChangeSpec := { name := "refsNil", fn := fun _ => fun
  | [d1, d2] => { results := [.lit (.bool true)], args := [d1, d2] }
  | _ => none }
def refsNilRow : OpenClaim := { program := "ytloppjfdflacaaa", sum := "841b4396304ddf02b79c19991cef3452db1c2c260760045bfbc22d7019df5748", func := "lexicon/lexiconlaw23.RefsNil", spec := "refsNil", inPlace := ["maps.clone"], unfollowed := true, recurses := true, plainKeys := false, apart := false }
def RefsNilSaid : Prop := refsNilRow.holds Try.pinned (OpenSpec.ofChange refsNilSpec)

/-- ITS FALSE NEIGHBOUR: 'it returns false'. Refute it at one input. -/
def refsNilWrong : ChangeSpec := { name := "refsNil", fn := fun _ => fun
  | [d1, d2] => { results := [.lit (.bool false)], args := [d1, d2] }
  | _ => none }
def RefsNilWrongFalsely : Prop := refsNilRow.holds Try.pinned (OpenSpec.ofChange refsNilWrong)

/-- 'lexiconlaw04.PagerNil': WHATEVER THE INPUT: true; the input reads as it did. -/
def pagerNilSpec : ChangeSpec := { name := "pagerNil", fn := fun _ => fun
  | [d1, d2] => { results := [.lit (.bool true)], args := [d1, d2] }
  | _ => none }
def pagerNilRow : OpenClaim := { program := "ytloppjfdflacaaa", sum := "841b4396304ddf02b79c19991cef3452db1c2c260760045bfbc22d7019df5748", func := "lexicon/lexiconlaw04.PagerNil", spec := "pagerNil", unfollowed := true, recurses := true, plainKeys := false, apart := false }
def PagerNilSaid : Prop := pagerNilRow.holds Try.pinned (OpenSpec.ofChange pagerNilSpec)

/-- ITS FALSE NEIGHBOUR: 'it returns false'. Refute it at one input. -/
def pagerNilWrong : ChangeSpec := { name := "pagerNil", fn := fun _ => fun
  | [d1, d2] => { results := [.lit (.bool false)], args := [d1, d2] }
  | _ => none }
def PagerNilWrongFalsely : Prop := pagerNilRow.holds Try.pinned (OpenSpec.ofChange pagerNilWrong)

/- THE SECOND FORM. 'bulk': how many values and letters a reading holds, each counted each time it is reached (what is shared counts as often as it is met; a slice's spare places count too). A statement '..UptoSaid' is the law's where the arguments, and the package variables that the reading takes, are together of bulk at most 1048576: NARROWER than '..Said'. Prove '..Said' where nothing that the law and all that it calls make is longer than what came in: it says more and counts as full. Else prove '..UptoSaid'. A law counts once. -/
mutual
def uptoBulk {H : Type} : DataW H → Nat
  | .lit (.string bytes) => bytes.length + 1
  | .lit _ => 1
  | .nil => 1
  | .ptr d => uptoBulk d + 1
  | .slice elems spare => uptoBulkAll elems + uptoBulkAll spare + 1
  | .agg parts => uptoBulkAll parts + 1
  | .iface _ d => uptoBulk d + 1
  | .map entries => uptoBulkEntries entries + 1
  | .held _ => 1
def uptoBulkAll {H : Type} : List (DataW H) → Nat
  | [] => 0
  | d :: r => uptoBulk d + uptoBulkAll r
def uptoBulkEntries {H : Type} : List (Lit × DataW H) → Nat
  | [] => 0
  | x :: r => uptoBulkEntry x + uptoBulkEntries r
def uptoBulkEntry {H : Type} : Lit × DataW H → Nat
  | (.string bytes, d) => bytes.length + uptoBulk d + 1
  | (_, d) => uptoBulk d + 1
 end
def uptoSmall : (H : Type) → List (DataW H) → Bool := fun _ ds => decide (uptoBulkAll ds ≤ 1048576)
def OpenSpec.upto (s : _root_.Go.ChangeSpec) : _root_.Go.OpenSpec := { _root_.Go.OpenSpec.ofChange s with cond := some uptoSmall }

/-- 'lexiconlaw02.DiskNil', WHERE WHAT IT READS IS OF BULK AT MOST 1048576: true; the input reads as it did. -/
def diskNilUptoRow : OpenClaim := { program := "ytloppjfdflacaaa", sum := "841b4396304ddf02b79c19991cef3452db1c2c260760045bfbc22d7019df5748", func := "lexicon/lexiconlaw02.DiskNil", spec := "diskNil", inPlace := ["maps.clone"], unfollowed := true, recurses := true, plainKeys := false, apart := false, narrowed := true }
def DiskNilUptoSaid : Prop := diskNilUptoRow.holds Try.pinned (OpenSpec.upto diskNilSpec)

/-- 'lexiconlaw03.WalNil', WHERE WHAT IT READS IS OF BULK AT MOST 1048576: true; the input reads as it did. -/
def walNilUptoRow : OpenClaim := { program := "ytloppjfdflacaaa", sum := "841b4396304ddf02b79c19991cef3452db1c2c260760045bfbc22d7019df5748", func := "lexicon/lexiconlaw03.WalNil", spec := "walNil", unfollowed := true, recurses := true, plainKeys := false, apart := false, narrowed := true }
def WalNilUptoSaid : Prop := walNilUptoRow.holds Try.pinned (OpenSpec.upto walNilSpec)

/-- 'lexiconlaw23.RefsCompare', WHERE WHAT IT READS IS OF BULK AT MOST 1048576: true; the input reads as it did. -/
def refsCompareUptoRow : OpenClaim := { program := "ytloppjfdflacaaa", sum := "841b4396304ddf02b79c19991cef3452db1c2c260760045bfbc22d7019df5748", func := "lexicon/lexiconlaw23.RefsCompare", spec := "refsCompare", unfollowed := true, recurses := true, plainKeys := false, apart := false, narrowed := true }
def RefsCompareUptoSaid : Prop := refsCompareUptoRow.holds Try.pinned (OpenSpec.upto refsCompareSpec)

/-- 'lexiconlaw23.RefsNil', WHERE WHAT IT READS IS OF BULK AT MOST 1048576: true; the input reads as it did. -/
def refsNilUptoRow : OpenClaim := { program := "ytloppjfdflacaaa", sum := "841b4396304ddf02b79c19991cef3452db1c2c260760045bfbc22d7019df5748", func := "lexicon/lexiconlaw23.RefsNil", spec := "refsNil", inPlace := ["maps.clone"], unfollowed := true, recurses := true, plainKeys := false, apart := false, narrowed := true }
def RefsNilUptoSaid : Prop := refsNilUptoRow.holds Try.pinned (OpenSpec.upto refsNilSpec)

/-- 'lexiconlaw04.PagerNil', WHERE WHAT IT READS IS OF BULK AT MOST 1048576: true; the input reads as it did. -/
def pagerNilUptoRow : OpenClaim := { program := "ytloppjfdflacaaa", sum := "841b4396304ddf02b79c19991cef3452db1c2c260760045bfbc22d7019df5748", func := "lexicon/lexiconlaw04.PagerNil", spec := "pagerNil", unfollowed := true, recurses := true, plainKeys := false, apart := false, narrowed := true }
def PagerNilUptoSaid : Prop := pagerNilUptoRow.holds Try.pinned (OpenSpec.upto pagerNilSpec)

end Rows
end Go.Proofs.Ytloppjfdflacaaa
