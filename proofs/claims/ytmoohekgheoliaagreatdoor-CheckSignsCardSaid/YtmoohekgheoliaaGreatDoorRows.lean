/-
  NARROWER THAN 'FOR EVERY INPUT', by the rows' own cells (each row's printed sentence says how): CheckKeeps: laid · CheckWaits: laid · CheckPays: laid · CheckOuts: laid · CheckSigns: laid · CheckChains: laid.
  DERIVED. THE GIVEN ROWS OF THIS SEAT. 6 by the template 'for every input the law returns true; each argument reads behind the call as it read before'; 0 by the template 'total and deterministic' (their statements: YtmoohekgheoliaaGreatDoorTotals.lean).
  GIVEN WITH THE SEED: the statements are not yours to turn. If you find one false, say at which input.
  Laid BY PROGRAM, IN A SANDBOX (cutbox-rows.mjs): the forced cells as the released guide's own fill.sh prints them over the translation f9c35af6d253bc0d… (all of the seat's roots in one cut). By AI agents, Wed Nov 11 2026. No macro, syntax, notation, axiom, sorry.
-/
import Derived.Test.YtmoohekgheoliaaGreatDoorChecked
import GoSem.Claim
import GoSem.ClaimJoined
import GoSem.ClaimMapViews
import Derived.JoinedTies
import Derived.KernelRfl
namespace Go.Proofs.YtmoohekgheoliaaGreatDoor
/- THE CELL 'sum', in the pinned program and in every row, IS THE sha256 OF THE DUMP (.gsa) THAT YtmoohekgheoliaaGreatDoorProg.lean LOADS. Nothing in Lean hashes anything: it is a label: what it is worth is what the hold of that sum in a sandbox is worth. -/
noncomputable def Tryz.pinned : Pinned := { name := "ytmoohekgheoliaagreatdoor", sum := "f9c35af6d253bc0d735449438af82aa884f0bf965467f008251779576e1761ab", checked := Tryz.checked }
namespace Rows
def none {H : Type} : Left H := { results := [], args := [] }

/- WHAT THE LISTED PACKAGE-LEVEL VARIABLES READ AS WHEN THE CALL BEGINS. Each datum BY PROGRAM (the guide's laid-datum.mjs) off the statement by which the dump's own 'gosem.cut.vars' lays the variable. In a bare row this is a premise. The card (YtmoohekgheoliaaGreatDoorCards.lean) ties it to the program's text. -/
def laid_drawbridge_hash_steps {H : Type} : DataW H := .agg [.lit (.int .u32 1116352408), .lit (.int .u32 1899447441), .lit (.int .u32 3049323471), .lit (.int .u32 3921009573), .lit (.int .u32 961987163), .lit (.int .u32 1508970993), .lit (.int .u32 2453635748), .lit (.int .u32 2870763221), .lit (.int .u32 3624381080), .lit (.int .u32 310598401), .lit (.int .u32 607225278), .lit (.int .u32 1426881987), .lit (.int .u32 1925078388), .lit (.int .u32 2162078206), .lit (.int .u32 2614888103), .lit (.int .u32 3248222580), .lit (.int .u32 3835390401), .lit (.int .u32 4022224774), .lit (.int .u32 264347078), .lit (.int .u32 604807628), .lit (.int .u32 770255983), .lit (.int .u32 1249150122), .lit (.int .u32 1555081692), .lit (.int .u32 1996064986), .lit (.int .u32 2554220882), .lit (.int .u32 2821834349), .lit (.int .u32 2952996808), .lit (.int .u32 3210313671), .lit (.int .u32 3336571891), .lit (.int .u32 3584528711), .lit (.int .u32 113926993), .lit (.int .u32 338241895), .lit (.int .u32 666307205), .lit (.int .u32 773529912), .lit (.int .u32 1294757372), .lit (.int .u32 1396182291), .lit (.int .u32 1695183700), .lit (.int .u32 1986661051), .lit (.int .u32 2177026350), .lit (.int .u32 2456956037), .lit (.int .u32 2730485921), .lit (.int .u32 2820302411), .lit (.int .u32 3259730800), .lit (.int .u32 3345764771), .lit (.int .u32 3516065817), .lit (.int .u32 3600352804), .lit (.int .u32 4094571909), .lit (.int .u32 275423344), .lit (.int .u32 430227734), .lit (.int .u32 506948616), .lit (.int .u32 659060556), .lit (.int .u32 883997877), .lit (.int .u32 958139571), .lit (.int .u32 1322822218), .lit (.int .u32 1537002063), .lit (.int .u32 1747873779), .lit (.int .u32 1955562222), .lit (.int .u32 2024104815), .lit (.int .u32 2227730452), .lit (.int .u32 2361852424), .lit (.int .u32 2428436474), .lit (.int .u32 2756734187), .lit (.int .u32 3204031479), .lit (.int .u32 3329325298)]

/-- 'drawbridgelaw12.CheckKeeps': WHATEVER THE INPUT: true; the input reads as it did. -/
def checkKeepsSpec : ChangeSpec := { name := "checkKeeps", fn := fun _ => fun
  | [d1, d2, d3] => { results := [.lit (.bool true)], args := [d1, d2, d3] }
  | _ => none }
def checkKeepsRow : OpenClaim := { program := "ytmoohekgheoliaagreatdoor", sum := "f9c35af6d253bc0d735449438af82aa884f0bf965467f008251779576e1761ab", func := "drawbridge/drawbridgelaw12.CheckKeeps", spec := "checkKeeps", unfollowed := true, recurses := true, named := ["drawbridge/hash.steps"], plainKeys := false, apart := false, laid := [("drawbridge/hash.steps", laid_drawbridge_hash_steps)] }
def CheckKeepsSaid : Prop := checkKeepsRow.holds Tryz.pinned (OpenSpec.ofChange checkKeepsSpec)

/-- ITS FALSE NEIGHBOUR: 'it returns false'. Refute it at one input. -/
def checkKeepsWrong : ChangeSpec := { name := "checkKeeps", fn := fun _ => fun
  | [d1, d2, d3] => { results := [.lit (.bool false)], args := [d1, d2, d3] }
  | _ => none }
def CheckKeepsWrongFalsely : Prop := checkKeepsRow.holds Tryz.pinned (OpenSpec.ofChange checkKeepsWrong)

/-- 'drawbridgelaw12.CheckWaits': WHATEVER THE INPUT: true; the input reads as it did. -/
def checkWaitsSpec : ChangeSpec := { name := "checkWaits", fn := fun _ => fun
  | [d1, d2, d3] => { results := [.lit (.bool true)], args := [d1, d2, d3] }
  | _ => none }
def checkWaitsRow : OpenClaim := { program := "ytmoohekgheoliaagreatdoor", sum := "f9c35af6d253bc0d735449438af82aa884f0bf965467f008251779576e1761ab", func := "drawbridge/drawbridgelaw12.CheckWaits", spec := "checkWaits", unfollowed := true, recurses := true, named := ["drawbridge/hash.steps"], plainKeys := false, apart := false, laid := [("drawbridge/hash.steps", laid_drawbridge_hash_steps)] }
def CheckWaitsSaid : Prop := checkWaitsRow.holds Tryz.pinned (OpenSpec.ofChange checkWaitsSpec)

/-- ITS FALSE NEIGHBOUR: 'it returns false'. Refute it at one input. -/
def checkWaitsWrong : ChangeSpec := { name := "checkWaits", fn := fun _ => fun
  | [d1, d2, d3] => { results := [.lit (.bool false)], args := [d1, d2, d3] }
  | _ => none }
def CheckWaitsWrongFalsely : Prop := checkWaitsRow.holds Tryz.pinned (OpenSpec.ofChange checkWaitsWrong)

/-- 'drawbridgelaw12.CheckPays': WHATEVER THE INPUT: true; the input reads as it did. -/
def checkPaysSpec : ChangeSpec := { name := "checkPays", fn := fun _ => fun
  | [d1, d2, d3] => { results := [.lit (.bool true)], args := [d1, d2, d3] }
  | _ => none }
def checkPaysRow : OpenClaim := { program := "ytmoohekgheoliaagreatdoor", sum := "f9c35af6d253bc0d735449438af82aa884f0bf965467f008251779576e1761ab", func := "drawbridge/drawbridgelaw12.CheckPays", spec := "checkPays", inPlace := ["internal/bytealg.Compare"], unfollowed := true, recurses := true, named := ["drawbridge/hash.steps"], plainKeys := false, apart := false, laid := [("drawbridge/hash.steps", laid_drawbridge_hash_steps)] }
def CheckPaysSaid : Prop := checkPaysRow.holds Tryz.pinned (OpenSpec.ofChange checkPaysSpec)

/-- ITS FALSE NEIGHBOUR: 'it returns false'. Refute it at one input. -/
def checkPaysWrong : ChangeSpec := { name := "checkPays", fn := fun _ => fun
  | [d1, d2, d3] => { results := [.lit (.bool false)], args := [d1, d2, d3] }
  | _ => none }
def CheckPaysWrongFalsely : Prop := checkPaysRow.holds Tryz.pinned (OpenSpec.ofChange checkPaysWrong)

/-- 'drawbridgelaw12.CheckOuts': WHATEVER THE INPUT: true; the input reads as it did. -/
def checkOutsSpec : ChangeSpec := { name := "checkOuts", fn := fun _ => fun
  | [d1, d2, d3] => { results := [.lit (.bool true)], args := [d1, d2, d3] }
  | _ => none }
def checkOutsRow : OpenClaim := { program := "ytmoohekgheoliaagreatdoor", sum := "f9c35af6d253bc0d735449438af82aa884f0bf965467f008251779576e1761ab", func := "drawbridge/drawbridgelaw12.CheckOuts", spec := "checkOuts", inPlace := ["internal/bytealg.Compare"], unfollowed := true, recurses := true, named := ["drawbridge/hash.steps"], plainKeys := false, apart := false, laid := [("drawbridge/hash.steps", laid_drawbridge_hash_steps)] }
def CheckOutsSaid : Prop := checkOutsRow.holds Tryz.pinned (OpenSpec.ofChange checkOutsSpec)

/-- ITS FALSE NEIGHBOUR: 'it returns false'. Refute it at one input. -/
def checkOutsWrong : ChangeSpec := { name := "checkOuts", fn := fun _ => fun
  | [d1, d2, d3] => { results := [.lit (.bool false)], args := [d1, d2, d3] }
  | _ => none }
def CheckOutsWrongFalsely : Prop := checkOutsRow.holds Tryz.pinned (OpenSpec.ofChange checkOutsWrong)

/-- 'drawbridgelaw12.CheckSigns': WHATEVER THE INPUT: true; the input reads as it did. -/
def checkSignsSpec : ChangeSpec := { name := "checkSigns", fn := fun _ => fun
  | [d1, d2, d3] => { results := [.lit (.bool true)], args := [d1, d2, d3] }
  | _ => none }
def checkSignsRow : OpenClaim := { program := "ytmoohekgheoliaagreatdoor", sum := "f9c35af6d253bc0d735449438af82aa884f0bf965467f008251779576e1761ab", func := "drawbridge/drawbridgelaw12.CheckSigns", spec := "checkSigns", inPlace := ["internal/bytealg.Compare"], unfollowed := true, recurses := true, named := ["drawbridge/hash.steps"], plainKeys := false, apart := false, laid := [("drawbridge/hash.steps", laid_drawbridge_hash_steps)] }
def CheckSignsSaid : Prop := checkSignsRow.holds Tryz.pinned (OpenSpec.ofChange checkSignsSpec)

/-- ITS FALSE NEIGHBOUR: 'it returns false'. Refute it at one input. -/
def checkSignsWrong : ChangeSpec := { name := "checkSigns", fn := fun _ => fun
  | [d1, d2, d3] => { results := [.lit (.bool false)], args := [d1, d2, d3] }
  | _ => none }
def CheckSignsWrongFalsely : Prop := checkSignsRow.holds Tryz.pinned (OpenSpec.ofChange checkSignsWrong)

/-- 'drawbridgelaw12.CheckChains': WHATEVER THE INPUT: true; the input reads as it did. -/
def checkChainsSpec : ChangeSpec := { name := "checkChains", fn := fun _ => fun
  | [d1, d2] => { results := [.lit (.bool true)], args := [d1, d2] }
  | _ => none }
def checkChainsRow : OpenClaim := { program := "ytmoohekgheoliaagreatdoor", sum := "f9c35af6d253bc0d735449438af82aa884f0bf965467f008251779576e1761ab", func := "drawbridge/drawbridgelaw12.CheckChains", spec := "checkChains", inPlace := ["internal/bytealg.Compare"], unfollowed := true, recurses := true, named := ["drawbridge/hash.steps"], plainKeys := false, apart := false, laid := [("drawbridge/hash.steps", laid_drawbridge_hash_steps)] }
def CheckChainsSaid : Prop := checkChainsRow.holds Tryz.pinned (OpenSpec.ofChange checkChainsSpec)

/-- ITS FALSE NEIGHBOUR: 'it returns false'. Refute it at one input. -/
def checkChainsWrong : ChangeSpec := { name := "checkChains", fn := fun _ => fun
  | [d1, d2] => { results := [.lit (.bool false)], args := [d1, d2] }
  | _ => none }
def CheckChainsWrongFalsely : Prop := checkChainsRow.holds Tryz.pinned (OpenSpec.ofChange checkChainsWrong)

/- THE SECOND FORM. 'bulk': how many values and letters a reading holds, each counted each time it is reached (what is shared counts as often as it is met; a slice's spare places count too). A statement '..UptoSaid' is the law's where the arguments, and the package variables that the reading takes, are together of bulk at most 1048576: NARROWER than '..Said'. Prove '..Said' where nothing that the law and all that it calls make is longer than what came in: it says more and counts as full. Else prove '..UptoSaid'. A law counts once. -/
mutual
def uptoBulk {H : Type} : DataW H → Nat
  | .lit (.string bytes) => bytes.length + 1
  | .lit _ => 1
  | .nil => 1
  | .ptr d => uptoBulk d + 1
  | .slice elems spare => uptoBulkAll elems + uptoBulkAll spare + 1
  | .agg parts => uptoBulkAll parts + 1
  | .iface _ d => uptoBulk d + 1
  | .map entries => uptoBulkEntries entries + 1
  | .held _ => 1
def uptoBulkAll {H : Type} : List (DataW H) → Nat
  | [] => 0
  | d :: r => uptoBulk d + uptoBulkAll r
def uptoBulkEntries {H : Type} : List (Lit × DataW H) → Nat
  | [] => 0
  | x :: r => uptoBulkEntry x + uptoBulkEntries r
def uptoBulkEntry {H : Type} : Lit × DataW H → Nat
  | (.string bytes, d) => bytes.length + uptoBulk d + 1
  | (_, d) => uptoBulk d + 1
 end
def uptoSmall : (H : Type) → List (DataW H) → Bool := fun _ ds => decide (uptoBulkAll ds ≤ 1048576)
def OpenSpec.upto (s : _root_.Go.ChangeSpec) : _root_.Go.OpenSpec := { _root_.Go.OpenSpec.ofChange s with cond := some uptoSmall }

/-- 'drawbridgelaw12.CheckKeeps', WHERE WHAT IT READS IS OF BULK AT MOST 1048576: true; the input reads as it did. -/
def checkKeepsUptoRow : OpenClaim := { program := "ytmoohekgheoliaagreatdoor", sum := "f9c35af6d253bc0d735449438af82aa884f0bf965467f008251779576e1761ab", func := "drawbridge/drawbridgelaw12.CheckKeeps", spec := "checkKeeps", unfollowed := true, recurses := true, named := ["drawbridge/hash.steps"], plainKeys := false, apart := false, laid := [("drawbridge/hash.steps", laid_drawbridge_hash_steps)], narrowed := true }
def CheckKeepsUptoSaid : Prop := checkKeepsUptoRow.holds Tryz.pinned (OpenSpec.upto checkKeepsSpec)

/-- 'drawbridgelaw12.CheckWaits', WHERE WHAT IT READS IS OF BULK AT MOST 1048576: true; the input reads as it did. -/
def checkWaitsUptoRow : OpenClaim := { program := "ytmoohekgheoliaagreatdoor", sum := "f9c35af6d253bc0d735449438af82aa884f0bf965467f008251779576e1761ab", func := "drawbridge/drawbridgelaw12.CheckWaits", spec := "checkWaits", unfollowed := true, recurses := true, named := ["drawbridge/hash.steps"], plainKeys := false, apart := false, laid := [("drawbridge/hash.steps", laid_drawbridge_hash_steps)], narrowed := true }
def CheckWaitsUptoSaid : Prop := checkWaitsUptoRow.holds Tryz.pinned (OpenSpec.upto checkWaitsSpec)

/-- 'drawbridgelaw12.CheckPays', WHERE WHAT IT READS IS OF BULK AT MOST 1048576: true; the input reads as it did. -/
def checkPaysUptoRow : OpenClaim := { program := "ytmoohekgheoliaagreatdoor", sum := "f9c35af6d253bc0d735449438af82aa884f0bf965467f008251779576e1761ab", func := "drawbridge/drawbridgelaw12.CheckPays", spec := "checkPays", inPlace := ["internal/bytealg.Compare"], unfollowed := true, recurses := true, named := ["drawbridge/hash.steps"], plainKeys := false, apart := false, laid := [("drawbridge/hash.steps", laid_drawbridge_hash_steps)], narrowed := true }
def CheckPaysUptoSaid : Prop := checkPaysUptoRow.holds Tryz.pinned (OpenSpec.upto checkPaysSpec)

/-- 'drawbridgelaw12.CheckOuts', WHERE WHAT IT READS IS OF BULK AT MOST 1048576: true; the input reads as it did. -/
def checkOutsUptoRow : OpenClaim := { program := "ytmoohekgheoliaagreatdoor", sum := "f9c35af6d253bc0d735449438af82aa884f0bf965467f008251779576e1761ab", func := "drawbridge/drawbridgelaw12.CheckOuts", spec := "checkOuts", inPlace := ["internal/bytealg.Compare"], unfollowed := true, recurses := true, named := ["drawbridge/hash.steps"], plainKeys := false, apart := false, laid := [("drawbridge/hash.steps", laid_drawbridge_hash_steps)], narrowed := true }
def CheckOutsUptoSaid : Prop := checkOutsUptoRow.holds Tryz.pinned (OpenSpec.upto checkOutsSpec)

/-- 'drawbridgelaw12.CheckSigns', WHERE WHAT IT READS IS OF BULK AT MOST 1048576: true; the input reads as it did. -/
def checkSignsUptoRow : OpenClaim := { program := "ytmoohekgheoliaagreatdoor", sum := "f9c35af6d253bc0d735449438af82aa884f0bf965467f008251779576e1761ab", func := "drawbridge/drawbridgelaw12.CheckSigns", spec := "checkSigns", inPlace := ["internal/bytealg.Compare"], unfollowed := true, recurses := true, named := ["drawbridge/hash.steps"], plainKeys := false, apart := false, laid := [("drawbridge/hash.steps", laid_drawbridge_hash_steps)], narrowed := true }
def CheckSignsUptoSaid : Prop := checkSignsUptoRow.holds Tryz.pinned (OpenSpec.upto checkSignsSpec)

/-- 'drawbridgelaw12.CheckChains', WHERE WHAT IT READS IS OF BULK AT MOST 1048576: true; the input reads as it did. -/
def checkChainsUptoRow : OpenClaim := { program := "ytmoohekgheoliaagreatdoor", sum := "f9c35af6d253bc0d735449438af82aa884f0bf965467f008251779576e1761ab", func := "drawbridge/drawbridgelaw12.CheckChains", spec := "checkChains", inPlace := ["internal/bytealg.Compare"], unfollowed := true, recurses := true, named := ["drawbridge/hash.steps"], plainKeys := false, apart := false, laid := [("drawbridge/hash.steps", laid_drawbridge_hash_steps)], narrowed := true }
def CheckChainsUptoSaid : Prop := checkChainsUptoRow.holds Tryz.pinned (OpenSpec.upto checkChainsSpec)

end Rows
end Go.Proofs.YtmoohekgheoliaaGreatDoor
