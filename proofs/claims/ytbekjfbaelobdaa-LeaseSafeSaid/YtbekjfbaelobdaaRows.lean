/-
  No cell of these rows narrows 'for every input' (looked for: loops, veiled, ifaces, maps, wideKeys, modest, calm, conditions, laid).
  DERIVED. THE GIVEN ROWS OF THIS SEAT. 5 by the template 'for every input the law returns true; each argument reads behind the call as it read before'; 0 by the template 'total and deterministic' (their statements: YtbekjfbaelobdaaTotals.lean).
  GIVEN WITH THE SEED: the statements are not yours to turn. If you find one false, say at which input.
  Laid BY PROGRAM, IN A SANDBOX (cutbox-rows.mjs): the forced cells as the released guide's own fill.sh prints them over the translation fa3f3796bd420191… (all of the seat's roots in one cut). By AI agents, Wed Nov 11 2026. No macro, syntax, notation, axiom, sorry.
-/
import Derived.Test.YtbekjfbaelobdaaChecked
import GoSem.Claim
import GoSem.ClaimJoined
import GoSem.ClaimMapViews
import Derived.JoinedTies
import Derived.KernelRfl
namespace Go.Proofs.Ytbekjfbaelobdaa
/- THE CELL 'sum', in the pinned program and in every row, IS THE sha256 OF THE DUMP (.gsa) THAT YtbekjfbaelobdaaProg.lean LOADS. Nothing in Lean hashes anything: it is a label: what it is worth is what the hold of that sum in a sandbox is worth. -/
noncomputable def Try.pinned : Pinned := { name := "ytbekjfbaelobdaa", sum := "fa3f3796bd420191d87a121961dc91b5b81e1f902ee0b6215218165608f36256", checked := Try.checked }
namespace Rows
def none {H : Type} : Left H := { results := [], args := [] }

/-- 'commonslaw19.MinePlays': WHATEVER THE INPUT: true; the input reads as it did. -/
def minePlaysSpec : ChangeSpec := { name := "minePlays", fn := fun _ => fun
  | [d1, d2, d3] => { results := [.lit (.bool true)], args := [d1, d2, d3] }
  | _ => none }
def minePlaysRow : OpenClaim := { program := "ytbekjfbaelobdaa", sum := "fa3f3796bd420191d87a121961dc91b5b81e1f902ee0b6215218165608f36256", func := "commons/commonslaw19.MinePlays", spec := "minePlays", unfollowed := true, recurses := true, apart := false }
def MinePlaysSaid : Prop := minePlaysRow.holds Try.pinned (OpenSpec.ofChange minePlaysSpec)

/-- ITS FALSE NEIGHBOUR: 'it returns false'. Refute it at one input. -/
def minePlaysWrong : ChangeSpec := { name := "minePlays", fn := fun _ => fun
  | [d1, d2, d3] => { results := [.lit (.bool false)], args := [d1, d2, d3] }
  | _ => none }
def MinePlaysWrongFalsely : Prop := minePlaysRow.holds Try.pinned (OpenSpec.ofChange minePlaysWrong)

/-- 'commonslaw19.MineLate': WHATEVER THE INPUT: true; the input reads as it did. -/
def mineLateSpec : ChangeSpec := { name := "mineLate", fn := fun _ => fun
  | [d1, d2, d3] => { results := [.lit (.bool true)], args := [d1, d2, d3] }
  | _ => none }
def mineLateRow : OpenClaim := { program := "ytbekjfbaelobdaa", sum := "fa3f3796bd420191d87a121961dc91b5b81e1f902ee0b6215218165608f36256", func := "commons/commonslaw19.MineLate", spec := "mineLate", unfollowed := true, recurses := true, apart := false }
def MineLateSaid : Prop := mineLateRow.holds Try.pinned (OpenSpec.ofChange mineLateSpec)

/-- ITS FALSE NEIGHBOUR: 'it returns false'. Refute it at one input. -/
def mineLateWrong : ChangeSpec := { name := "mineLate", fn := fun _ => fun
  | [d1, d2, d3] => { results := [.lit (.bool false)], args := [d1, d2, d3] }
  | _ => none }
def MineLateWrongFalsely : Prop := mineLateRow.holds Try.pinned (OpenSpec.ofChange mineLateWrong)

/-- 'commonslaw19.LeaseRenews': WHATEVER THE INPUT: true; the input reads as it did. -/
def leaseRenewsSpec : ChangeSpec := { name := "leaseRenews", fn := fun _ => fun
  | [d1, d2, d3] => { results := [.lit (.bool true)], args := [d1, d2, d3] }
  | _ => none }
def leaseRenewsRow : OpenClaim := { program := "ytbekjfbaelobdaa", sum := "fa3f3796bd420191d87a121961dc91b5b81e1f902ee0b6215218165608f36256", func := "commons/commonslaw19.LeaseRenews", spec := "leaseRenews", unfollowed := true, recurses := true, apart := false }
def LeaseRenewsSaid : Prop := leaseRenewsRow.holds Try.pinned (OpenSpec.ofChange leaseRenewsSpec)

/-- ITS FALSE NEIGHBOUR: 'it returns false'. Refute it at one input. -/
def leaseRenewsWrong : ChangeSpec := { name := "leaseRenews", fn := fun _ => fun
  | [d1, d2, d3] => { results := [.lit (.bool false)], args := [d1, d2, d3] }
  | _ => none }
def LeaseRenewsWrongFalsely : Prop := leaseRenewsRow.holds Try.pinned (OpenSpec.ofChange leaseRenewsWrong)

/-- 'commonslaw19.LeaseNone': WHATEVER THE INPUT: true; the input reads as it did. -/
def leaseNoneSpec : ChangeSpec := { name := "leaseNone", fn := fun _ => fun
  | [d1, d2] => { results := [.lit (.bool true)], args := [d1, d2] }
  | _ => none }
def leaseNoneRow : OpenClaim := { program := "ytbekjfbaelobdaa", sum := "fa3f3796bd420191d87a121961dc91b5b81e1f902ee0b6215218165608f36256", func := "commons/commonslaw19.LeaseNone", spec := "leaseNone", unfollowed := true, recurses := true, apart := false }
def LeaseNoneSaid : Prop := leaseNoneRow.holds Try.pinned (OpenSpec.ofChange leaseNoneSpec)

/-- ITS FALSE NEIGHBOUR: 'it returns false'. Refute it at one input. -/
def leaseNoneWrong : ChangeSpec := { name := "leaseNone", fn := fun _ => fun
  | [d1, d2] => { results := [.lit (.bool false)], args := [d1, d2] }
  | _ => none }
def LeaseNoneWrongFalsely : Prop := leaseNoneRow.holds Try.pinned (OpenSpec.ofChange leaseNoneWrong)

/-- 'commonslaw19.LeaseSafe': WHATEVER THE INPUT: true; the input reads as it did. -/
def leaseSafeSpec : ChangeSpec := { name := "leaseSafe", fn := fun _ => fun
  | [d1, d2, d3, d4] => { results := [.lit (.bool true)], args := [d1, d2, d3, d4] }
  | _ => none }
def leaseSafeRow : OpenClaim := { program := "ytbekjfbaelobdaa", sum := "fa3f3796bd420191d87a121961dc91b5b81e1f902ee0b6215218165608f36256", func := "commons/commonslaw19.LeaseSafe", spec := "leaseSafe", unfollowed := true, recurses := true, apart := false }
def LeaseSafeSaid : Prop := leaseSafeRow.holds Try.pinned (OpenSpec.ofChange leaseSafeSpec)

/-- ITS FALSE NEIGHBOUR: 'it returns false'. Refute it at one input. -/
def leaseSafeWrong : ChangeSpec := { name := "leaseSafe", fn := fun _ => fun
  | [d1, d2, d3, d4] => { results := [.lit (.bool false)], args := [d1, d2, d3, d4] }
  | _ => none }
def LeaseSafeWrongFalsely : Prop := leaseSafeRow.holds Try.pinned (OpenSpec.ofChange leaseSafeWrong)

/- THE SECOND FORM. 'bulk': how many values and letters a reading holds, each counted each time it is reached (what is shared counts as often as it is met; a slice's spare places count too). A statement '..UptoSaid' is the law's where the arguments, and the package variables that the reading takes, are together of bulk at most 1048576: NARROWER than '..Said'. Prove '..Said' where nothing that the law and all that it calls make is longer than what came in: it says more and counts as full. Else prove '..UptoSaid'. A law counts once. -/
mutual
def uptoBulk {H : Type} : DataW H → Nat
  | .lit (.string bytes) => bytes.length + 1
  | .lit _ => 1
  | .nil => 1
  | .ptr d => uptoBulk d + 1
  | .slice elems spare => uptoBulkAll elems + uptoBulkAll spare + 1
  | .agg parts => uptoBulkAll parts + 1
  | .iface _ d => uptoBulk d + 1
  | .map entries => uptoBulkEntries entries + 1
  | .held _ => 1
def uptoBulkAll {H : Type} : List (DataW H) → Nat
  | [] => 0
  | d :: r => uptoBulk d + uptoBulkAll r
def uptoBulkEntries {H : Type} : List (Lit × DataW H) → Nat
  | [] => 0
  | x :: r => uptoBulkEntry x + uptoBulkEntries r
def uptoBulkEntry {H : Type} : Lit × DataW H → Nat
  | (.string bytes, d) => bytes.length + uptoBulk d + 1
  | (_, d) => uptoBulk d + 1
 end
def uptoSmall : (H : Type) → List (DataW H) → Bool := fun _ ds => decide (uptoBulkAll ds ≤ 1048576)
def OpenSpec.upto (s : _root_.Go.ChangeSpec) : _root_.Go.OpenSpec := { _root_.Go.OpenSpec.ofChange s with cond := some uptoSmall }

/-- 'commonslaw19.MinePlays', WHERE WHAT IT READS IS OF BULK AT MOST 1048576: true; the input reads as it did. -/
def minePlaysUptoRow : OpenClaim := { program := "ytbekjfbaelobdaa", sum := "fa3f3796bd420191d87a121961dc91b5b81e1f902ee0b6215218165608f36256", func := "commons/commonslaw19.MinePlays", spec := "minePlays", unfollowed := true, recurses := true, apart := false, narrowed := true }
def MinePlaysUptoSaid : Prop := minePlaysUptoRow.holds Try.pinned (OpenSpec.upto minePlaysSpec)

/-- 'commonslaw19.MineLate', WHERE WHAT IT READS IS OF BULK AT MOST 1048576: true; the input reads as it did. -/
def mineLateUptoRow : OpenClaim := { program := "ytbekjfbaelobdaa", sum := "fa3f3796bd420191d87a121961dc91b5b81e1f902ee0b6215218165608f36256", func := "commons/commonslaw19.MineLate", spec := "mineLate", unfollowed := true, recurses := true, apart := false, narrowed := true }
def MineLateUptoSaid : Prop := mineLateUptoRow.holds Try.pinned (OpenSpec.upto mineLateSpec)

/-- 'commonslaw19.LeaseRenews', WHERE WHAT IT READS IS OF BULK AT MOST 1048576: true; the input reads as it did. -/
def leaseRenewsUptoRow : OpenClaim := { program := "ytbekjfbaelobdaa", sum := "fa3f3796bd420191d87a121961dc91b5b81e1f902ee0b6215218165608f36256", func := "commons/commonslaw19.LeaseRenews", spec := "leaseRenews", unfollowed := true, recurses := true, apart := false, narrowed := true }
def LeaseRenewsUptoSaid : Prop := leaseRenewsUptoRow.holds Try.pinned (OpenSpec.upto leaseRenewsSpec)

/-- 'commonslaw19.LeaseNone', WHERE WHAT IT READS IS OF BULK AT MOST 1048576: true; the input reads as it did. -/
def leaseNoneUptoRow : OpenClaim := { program := "ytbekjfbaelobdaa", sum := "fa3f3796bd420191d87a121961dc91b5b81e1f902ee0b6215218165608f36256", func := "commons/commonslaw19.LeaseNone", spec := "leaseNone", unfollowed := true, recurses := true, apart := false, narrowed := true }
def LeaseNoneUptoSaid : Prop := leaseNoneUptoRow.holds Try.pinned (OpenSpec.upto leaseNoneSpec)

/-- 'commonslaw19.LeaseSafe', WHERE WHAT IT READS IS OF BULK AT MOST 1048576: true; the input reads as it did. -/
def leaseSafeUptoRow : OpenClaim := { program := "ytbekjfbaelobdaa", sum := "fa3f3796bd420191d87a121961dc91b5b81e1f902ee0b6215218165608f36256", func := "commons/commonslaw19.LeaseSafe", spec := "leaseSafe", unfollowed := true, recurses := true, apart := false, narrowed := true }
def LeaseSafeUptoSaid : Prop := leaseSafeUptoRow.holds Try.pinned (OpenSpec.upto leaseSafeSpec)

end Rows
end Go.Proofs.Ytbekjfbaelobdaa
