/-
  No cell of these rows narrows 'for every input' (looked for: loops, veiled, ifaces, maps, wideKeys, modest, calm, conditions, laid).
  DERIVED. THE GIVEN ROWS OF THIS SEAT. 3 by the template 'for every input the law returns true; each argument reads behind the call as it read before'; 0 by the template 'total and deterministic' (their statements: YteokjobkjmibfaaTotals.lean).
  GIVEN WITH THE SEED: the statements are not yours to turn. If you find one false, say at which input.
  Laid BY PROGRAM, IN A SANDBOX (cutbox-rows.mjs): the forced cells as the released guide's own fill.sh prints them over the translation 7c3f7105813dde8f… (all of the seat's roots in one cut). By AI agents, Wed Nov 11 2026. No macro, syntax, notation, axiom, sorry.
-/
import Derived.Test.YteokjobkjmibfaaChecked
import GoSem.Claim
import GoSem.ClaimJoined
import GoSem.ClaimMapViews
import Derived.JoinedTies
import Derived.KernelRfl
namespace Go.Proofs.Yteokjobkjmibfaa
/- THE CELL 'sum', in the pinned program and in every row, IS THE sha256 OF THE DUMP (.gsa) THAT YteokjobkjmibfaaProg.lean LOADS. Nothing in Lean hashes anything: it is a label: what it is worth is what the hold of that sum in a sandbox is worth. -/
noncomputable def Try.pinned : Pinned := { name := "yteokjobkjmibfaa", sum := "7c3f7105813dde8fc77eb8c41df5a9d58b5bc2b7d776fd0b78c90fbbcf4fb35c", checked := Try.checked }
namespace Rows
def none {H : Type} : Left H := { results := [], args := [] }

/-- 'commonslaw26.HistPlain': WHATEVER THE INPUT: true; the input reads as it did. -/
def histPlainSpec : ChangeSpec := { name := "histPlain", fn := fun _ => fun
  | [d1, d2, d3] => { results := [.lit (.bool true)], args := [d1, d2, d3] }
  | _ => none }
def histPlainRow : OpenClaim := { program := "yteokjobkjmibfaa", sum := "7c3f7105813dde8fc77eb8c41df5a9d58b5bc2b7d776fd0b78c90fbbcf4fb35c", func := "commons/commonslaw26.HistPlain", spec := "histPlain", inPlace := ["internal/abi.NoEscape", "internal/bytealg.MakeNoZero"], unfollowed := true, recurses := true, plainKeys := false, apart := false }
def HistPlainSaid : Prop := histPlainRow.holds Try.pinned (OpenSpec.ofChange histPlainSpec)

/-- ITS FALSE NEIGHBOUR: 'it returns false'. Refute it at one input. -/
def histPlainWrong : ChangeSpec := { name := "histPlain", fn := fun _ => fun
  | [d1, d2, d3] => { results := [.lit (.bool false)], args := [d1, d2, d3] }
  | _ => none }
def HistPlainWrongFalsely : Prop := histPlainRow.holds Try.pinned (OpenSpec.ofChange histPlainWrong)

/-- 'commonslaw26.HistVanish': WHATEVER THE INPUT: true; the input reads as it did. -/
def histVanishSpec : ChangeSpec := { name := "histVanish", fn := fun _ => fun
  | [d1, d2, d3] => { results := [.lit (.bool true)], args := [d1, d2, d3] }
  | _ => none }
def histVanishRow : OpenClaim := { program := "yteokjobkjmibfaa", sum := "7c3f7105813dde8fc77eb8c41df5a9d58b5bc2b7d776fd0b78c90fbbcf4fb35c", func := "commons/commonslaw26.HistVanish", spec := "histVanish", inPlace := ["internal/abi.NoEscape", "internal/bytealg.MakeNoZero"], unfollowed := true, recurses := true, plainKeys := false, apart := false }
def HistVanishSaid : Prop := histVanishRow.holds Try.pinned (OpenSpec.ofChange histVanishSpec)

/-- ITS FALSE NEIGHBOUR: 'it returns false'. Refute it at one input. -/
def histVanishWrong : ChangeSpec := { name := "histVanish", fn := fun _ => fun
  | [d1, d2, d3] => { results := [.lit (.bool false)], args := [d1, d2, d3] }
  | _ => none }
def HistVanishWrongFalsely : Prop := histVanishRow.holds Try.pinned (OpenSpec.ofChange histVanishWrong)

/-- 'commonslaw26.HistOrder': WHATEVER THE INPUT: true; the input reads as it did. -/
def histOrderSpec : ChangeSpec := { name := "histOrder", fn := fun _ => fun
  | [d1, d2] => { results := [.lit (.bool true)], args := [d1, d2] }
  | _ => none }
def histOrderRow : OpenClaim := { program := "yteokjobkjmibfaa", sum := "7c3f7105813dde8fc77eb8c41df5a9d58b5bc2b7d776fd0b78c90fbbcf4fb35c", func := "commons/commonslaw26.HistOrder", spec := "histOrder", inPlace := ["internal/abi.NoEscape", "internal/bytealg.MakeNoZero"], unfollowed := true, recurses := true, plainKeys := false, apart := false }
def HistOrderSaid : Prop := histOrderRow.holds Try.pinned (OpenSpec.ofChange histOrderSpec)

/-- ITS FALSE NEIGHBOUR: 'it returns false'. Refute it at one input. -/
def histOrderWrong : ChangeSpec := { name := "histOrder", fn := fun _ => fun
  | [d1, d2] => { results := [.lit (.bool false)], args := [d1, d2] }
  | _ => none }
def HistOrderWrongFalsely : Prop := histOrderRow.holds Try.pinned (OpenSpec.ofChange histOrderWrong)

/- THE SECOND FORM. 'bulk': how many values and letters a reading holds, each counted each time it is reached (what is shared counts as often as it is met; a slice's spare places count too). A statement '..UptoSaid' is the law's where the arguments, and the package variables that the reading takes, are together of bulk at most 1048576: NARROWER than '..Said'. Prove '..Said' where nothing that the law and all that it calls make is longer than what came in: it says more and counts as full. Else prove '..UptoSaid'. A law counts once. -/
mutual
def uptoBulk {H : Type} : DataW H → Nat
  | .lit (.string bytes) => bytes.length + 1
  | .lit _ => 1
  | .nil => 1
  | .ptr d => uptoBulk d + 1
  | .slice elems spare => uptoBulkAll elems + uptoBulkAll spare + 1
  | .agg parts => uptoBulkAll parts + 1
  | .iface _ d => uptoBulk d + 1
  | .map entries => uptoBulkEntries entries + 1
  | .held _ => 1
def uptoBulkAll {H : Type} : List (DataW H) → Nat
  | [] => 0
  | d :: r => uptoBulk d + uptoBulkAll r
def uptoBulkEntries {H : Type} : List (Lit × DataW H) → Nat
  | [] => 0
  | x :: r => uptoBulkEntry x + uptoBulkEntries r
def uptoBulkEntry {H : Type} : Lit × DataW H → Nat
  | (.string bytes, d) => bytes.length + uptoBulk d + 1
  | (_, d) => uptoBulk d + 1
 end
def uptoSmall : (H : Type) → List (DataW H) → Bool := fun _ ds => decide (uptoBulkAll ds ≤ 1048576)
def OpenSpec.upto (s : _root_.Go.ChangeSpec) : _root_.Go.OpenSpec := { _root_.Go.OpenSpec.ofChange s with cond := some uptoSmall }

/-- 'commonslaw26.HistPlain', WHERE WHAT IT READS IS OF BULK AT MOST 1048576: true; the input reads as it did. -/
def histPlainUptoRow : OpenClaim := { program := "yteokjobkjmibfaa", sum := "7c3f7105813dde8fc77eb8c41df5a9d58b5bc2b7d776fd0b78c90fbbcf4fb35c", func := "commons/commonslaw26.HistPlain", spec := "histPlain", inPlace := ["internal/abi.NoEscape", "internal/bytealg.MakeNoZero"], unfollowed := true, recurses := true, plainKeys := false, apart := false, narrowed := true }
def HistPlainUptoSaid : Prop := histPlainUptoRow.holds Try.pinned (OpenSpec.upto histPlainSpec)

/-- 'commonslaw26.HistVanish', WHERE WHAT IT READS IS OF BULK AT MOST 1048576: true; the input reads as it did. -/
def histVanishUptoRow : OpenClaim := { program := "yteokjobkjmibfaa", sum := "7c3f7105813dde8fc77eb8c41df5a9d58b5bc2b7d776fd0b78c90fbbcf4fb35c", func := "commons/commonslaw26.HistVanish", spec := "histVanish", inPlace := ["internal/abi.NoEscape", "internal/bytealg.MakeNoZero"], unfollowed := true, recurses := true, plainKeys := false, apart := false, narrowed := true }
def HistVanishUptoSaid : Prop := histVanishUptoRow.holds Try.pinned (OpenSpec.upto histVanishSpec)

/-- 'commonslaw26.HistOrder', WHERE WHAT IT READS IS OF BULK AT MOST 1048576: true; the input reads as it did. -/
def histOrderUptoRow : OpenClaim := { program := "yteokjobkjmibfaa", sum := "7c3f7105813dde8fc77eb8c41df5a9d58b5bc2b7d776fd0b78c90fbbcf4fb35c", func := "commons/commonslaw26.HistOrder", spec := "histOrder", inPlace := ["internal/abi.NoEscape", "internal/bytealg.MakeNoZero"], unfollowed := true, recurses := true, plainKeys := false, apart := false, narrowed := true }
def HistOrderUptoSaid : Prop := histOrderUptoRow.holds Try.pinned (OpenSpec.upto histOrderSpec)

end Rows
end Go.Proofs.Yteokjobkjmibfaa
