/-
  No cell of these rows narrows 'for every input' (looked for: loops, veiled, ifaces, maps, wideKeys, modest, calm, conditions, laid).
  DERIVED. THE GIVEN ROWS OF THIS SEAT. 4 by the template 'for every input the law returns true; each argument reads behind the call as it read before'; 0 by the template 'total and deterministic' (their statements: YtfdmlpdhngmbiaaTotals.lean).
  GIVEN WITH THE SEED: the statements are not yours to turn. If you find one false, say at which input.
  Laid BY PROGRAM, IN A SANDBOX (cutbox-rows.mjs): the forced cells as the released guide's own fill.sh prints them over the translation 66694d4bf04bc7b4… (all of the seat's roots in one cut). By AI agents, Wed Nov 11 2026. No macro, syntax, notation, axiom, sorry.
-/
import Derived.Test.YtfdmlpdhngmbiaaChecked
import GoSem.Claim
import GoSem.ClaimJoined
import GoSem.ClaimMapViews
import Derived.JoinedTies
import Derived.KernelRfl
namespace Go.Proofs.Ytfdmlpdhngmbiaa
/- THE CELL 'sum', in the pinned program and in every row, IS THE sha256 OF THE DUMP (.gsa) THAT YtfdmlpdhngmbiaaProg.lean LOADS. Nothing in Lean hashes anything: it is a label: what it is worth is what the hold of that sum in a sandbox is worth. -/
noncomputable def Try.pinned : Pinned := { name := "ytfdmlpdhngmbiaa", sum := "66694d4bf04bc7b4e9f0798c1c7e84dba58f843418fe9db975f7c56e8695676a", checked := Try.checked }
namespace Rows
def none {H : Type} : Left H := { results := [], args := [] }

/-- 'drawbridgelaw11.UtxoNests': WHATEVER THE INPUT: true; the input reads as it did. -/
def utxoNestsSpec : ChangeSpec := { name := "utxoNests", fn := fun _ => fun
  | [d1, d2] => { results := [.lit (.bool true)], args := [d1, d2] }
  | _ => none }
def utxoNestsRow : OpenClaim := { program := "ytfdmlpdhngmbiaa", sum := "66694d4bf04bc7b4e9f0798c1c7e84dba58f843418fe9db975f7c56e8695676a", func := "drawbridge/drawbridgelaw11.UtxoNests", spec := "utxoNests", plainKeys := false, apart := false }
def UtxoNestsSaid : Prop := utxoNestsRow.holds Try.pinned (OpenSpec.ofChange utxoNestsSpec)

/-- ITS FALSE NEIGHBOUR: 'it returns false'. Refute it at one input. -/
def utxoNestsWrong : ChangeSpec := { name := "utxoNests", fn := fun _ => fun
  | [d1, d2] => { results := [.lit (.bool false)], args := [d1, d2] }
  | _ => none }
def UtxoNestsWrongFalsely : Prop := utxoNestsRow.holds Try.pinned (OpenSpec.ofChange utxoNestsWrong)

/-- 'drawbridgelaw11.UtxoPlays': WHATEVER THE INPUT: true; the input reads as it did. -/
def utxoPlaysSpec : ChangeSpec := { name := "utxoPlays", fn := fun _ => fun
  | [d] => { results := [.lit (.bool true)], args := [d] }
  | _ => none }
def utxoPlaysRow : OpenClaim := { program := "ytfdmlpdhngmbiaa", sum := "66694d4bf04bc7b4e9f0798c1c7e84dba58f843418fe9db975f7c56e8695676a", func := "drawbridge/drawbridgelaw11.UtxoPlays", spec := "utxoPlays", inPlace := ["internal/bytealg.Compare"], unfollowed := true, recurses := true, plainKeys := false, apart := false }
def UtxoPlaysSaid : Prop := utxoPlaysRow.holds Try.pinned (OpenSpec.ofChange utxoPlaysSpec)

/-- ITS FALSE NEIGHBOUR: 'it returns false'. Refute it at one input. -/
def utxoPlaysWrong : ChangeSpec := { name := "utxoPlays", fn := fun _ => fun
  | [d] => { results := [.lit (.bool false)], args := [d] }
  | _ => none }
def UtxoPlaysWrongFalsely : Prop := utxoPlaysRow.holds Try.pinned (OpenSpec.ofChange utxoPlaysWrong)

/-- 'drawbridgelaw11.UtxoSums': WHATEVER THE INPUT: true; the input reads as it did. -/
def utxoSumsSpec : ChangeSpec := { name := "utxoSums", fn := fun _ => fun
  | [d] => { results := [.lit (.bool true)], args := [d] }
  | _ => none }
def utxoSumsRow : OpenClaim := { program := "ytfdmlpdhngmbiaa", sum := "66694d4bf04bc7b4e9f0798c1c7e84dba58f843418fe9db975f7c56e8695676a", func := "drawbridge/drawbridgelaw11.UtxoSums", spec := "utxoSums", inPlace := ["internal/bytealg.Compare"], unfollowed := true, recurses := true, plainKeys := false, apart := false }
def UtxoSumsSaid : Prop := utxoSumsRow.holds Try.pinned (OpenSpec.ofChange utxoSumsSpec)

/-- ITS FALSE NEIGHBOUR: 'it returns false'. Refute it at one input. -/
def utxoSumsWrong : ChangeSpec := { name := "utxoSums", fn := fun _ => fun
  | [d] => { results := [.lit (.bool false)], args := [d] }
  | _ => none }
def UtxoSumsWrongFalsely : Prop := utxoSumsRow.holds Try.pinned (OpenSpec.ofChange utxoSumsWrong)

/-- 'drawbridgelaw11.UtxoBack': WHATEVER THE INPUT: true; the input reads as it did. -/
def utxoBackSpec : ChangeSpec := { name := "utxoBack", fn := fun _ => fun
  | [d1, d2] => { results := [.lit (.bool true)], args := [d1, d2] }
  | _ => none }
def utxoBackRow : OpenClaim := { program := "ytfdmlpdhngmbiaa", sum := "66694d4bf04bc7b4e9f0798c1c7e84dba58f843418fe9db975f7c56e8695676a", func := "drawbridge/drawbridgelaw11.UtxoBack", spec := "utxoBack", inPlace := ["maps.clone", "internal/bytealg.Compare"], unfollowed := true, recurses := true, plainKeys := false, apart := false }
def UtxoBackSaid : Prop := utxoBackRow.holds Try.pinned (OpenSpec.ofChange utxoBackSpec)

/-- ITS FALSE NEIGHBOUR: 'it returns false'. Refute it at one input. -/
def utxoBackWrong : ChangeSpec := { name := "utxoBack", fn := fun _ => fun
  | [d1, d2] => { results := [.lit (.bool false)], args := [d1, d2] }
  | _ => none }
def UtxoBackWrongFalsely : Prop := utxoBackRow.holds Try.pinned (OpenSpec.ofChange utxoBackWrong)

/- THE SECOND FORM. 'bulk': how many values and letters a reading holds, each counted each time it is reached (what is shared counts as often as it is met; a slice's spare places count too). A statement '..UptoSaid' is the law's where the arguments, and the package variables that the reading takes, are together of bulk at most 1048576: NARROWER than '..Said'. Prove '..Said' where nothing that the law and all that it calls make is longer than what came in: it says more and counts as full. Else prove '..UptoSaid'. A law counts once. -/
mutual
def uptoBulk {H : Type} : DataW H → Nat
  | .lit (.string bytes) => bytes.length + 1
  | .lit _ => 1
  | .nil => 1
  | .ptr d => uptoBulk d + 1
  | .slice elems spare => uptoBulkAll elems + uptoBulkAll spare + 1
  | .agg parts => uptoBulkAll parts + 1
  | .iface _ d => uptoBulk d + 1
  | .map entries => uptoBulkEntries entries + 1
  | .held _ => 1
def uptoBulkAll {H : Type} : List (DataW H) → Nat
  | [] => 0
  | d :: r => uptoBulk d + uptoBulkAll r
def uptoBulkEntries {H : Type} : List (Lit × DataW H) → Nat
  | [] => 0
  | x :: r => uptoBulkEntry x + uptoBulkEntries r
def uptoBulkEntry {H : Type} : Lit × DataW H → Nat
  | (.string bytes, d) => bytes.length + uptoBulk d + 1
  | (_, d) => uptoBulk d + 1
 end
def uptoSmall : (H : Type) → List (DataW H) → Bool := fun _ ds => decide (uptoBulkAll ds ≤ 1048576)
def OpenSpec.upto (s : _root_.Go.ChangeSpec) : _root_.Go.OpenSpec := { _root_.Go.OpenSpec.ofChange s with cond := some uptoSmall }

/-- 'drawbridgelaw11.UtxoNests', WHERE WHAT IT READS IS OF BULK AT MOST 1048576: true; the input reads as it did. -/
def utxoNestsUptoRow : OpenClaim := { program := "ytfdmlpdhngmbiaa", sum := "66694d4bf04bc7b4e9f0798c1c7e84dba58f843418fe9db975f7c56e8695676a", func := "drawbridge/drawbridgelaw11.UtxoNests", spec := "utxoNests", plainKeys := false, apart := false, narrowed := true }
def UtxoNestsUptoSaid : Prop := utxoNestsUptoRow.holds Try.pinned (OpenSpec.upto utxoNestsSpec)

/-- 'drawbridgelaw11.UtxoPlays', WHERE WHAT IT READS IS OF BULK AT MOST 1048576: true; the input reads as it did. -/
def utxoPlaysUptoRow : OpenClaim := { program := "ytfdmlpdhngmbiaa", sum := "66694d4bf04bc7b4e9f0798c1c7e84dba58f843418fe9db975f7c56e8695676a", func := "drawbridge/drawbridgelaw11.UtxoPlays", spec := "utxoPlays", inPlace := ["internal/bytealg.Compare"], unfollowed := true, recurses := true, plainKeys := false, apart := false, narrowed := true }
def UtxoPlaysUptoSaid : Prop := utxoPlaysUptoRow.holds Try.pinned (OpenSpec.upto utxoPlaysSpec)

/-- 'drawbridgelaw11.UtxoSums', WHERE WHAT IT READS IS OF BULK AT MOST 1048576: true; the input reads as it did. -/
def utxoSumsUptoRow : OpenClaim := { program := "ytfdmlpdhngmbiaa", sum := "66694d4bf04bc7b4e9f0798c1c7e84dba58f843418fe9db975f7c56e8695676a", func := "drawbridge/drawbridgelaw11.UtxoSums", spec := "utxoSums", inPlace := ["internal/bytealg.Compare"], unfollowed := true, recurses := true, plainKeys := false, apart := false, narrowed := true }
def UtxoSumsUptoSaid : Prop := utxoSumsUptoRow.holds Try.pinned (OpenSpec.upto utxoSumsSpec)

/-- 'drawbridgelaw11.UtxoBack', WHERE WHAT IT READS IS OF BULK AT MOST 1048576: true; the input reads as it did. -/
def utxoBackUptoRow : OpenClaim := { program := "ytfdmlpdhngmbiaa", sum := "66694d4bf04bc7b4e9f0798c1c7e84dba58f843418fe9db975f7c56e8695676a", func := "drawbridge/drawbridgelaw11.UtxoBack", spec := "utxoBack", inPlace := ["maps.clone", "internal/bytealg.Compare"], unfollowed := true, recurses := true, plainKeys := false, apart := false, narrowed := true }
def UtxoBackUptoSaid : Prop := utxoBackUptoRow.holds Try.pinned (OpenSpec.upto utxoBackSpec)

end Rows
end Go.Proofs.Ytfdmlpdhngmbiaa
