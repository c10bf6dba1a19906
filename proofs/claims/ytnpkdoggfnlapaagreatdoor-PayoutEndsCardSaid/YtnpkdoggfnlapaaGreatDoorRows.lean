/-
  NARROWER THAN 'FOR EVERY INPUT', by the rows' own cells (each row's printed sentence says how): CeaseAll: laid · CeaseMoney: laid · CeaseNot: laid · CeaseKeeps: laid · PayoutDue: laid · PayoutKeeps: laid · PayoutOnce: laid · PayoutPays: laid · PayoutEnds: laid · CeaseTakes: laid.
  DERIVED. THE GIVEN ROWS OF THIS SEAT. 10 by the template 'for every input the law returns true; each argument reads behind the call as it read before'; 0 by the template 'total and deterministic' (their statements: YtnpkdoggfnlapaaGreatDoorTotals.lean).
  GIVEN WITH THE SEED: the statements are not yours to turn. If you find one false, say at which input.
  Laid BY PROGRAM, IN A SANDBOX (cutbox-rows.mjs): the forced cells as the released guide's own fill.sh prints them over the translation 85488736f066ed2d… (all of the seat's roots in one cut). By AI agents, Wed Nov 11 2026. No macro, syntax, notation, axiom, sorry.
-/
import Derived.Test.YtnpkdoggfnlapaaGreatDoorChecked
import GoSem.Claim
import GoSem.ClaimJoined
import GoSem.ClaimMapViews
import Derived.JoinedTies
import Derived.KernelRfl
namespace Go.Proofs.YtnpkdoggfnlapaaGreatDoor
/- THE CELL 'sum', in the pinned program and in every row, IS THE sha256 OF THE DUMP (.gsa) THAT YtnpkdoggfnlapaaGreatDoorProg.lean LOADS. Nothing in Lean hashes anything: it is a label: what it is worth is what the hold of that sum in a sandbox is worth. -/
noncomputable def Tryz.pinned : Pinned := { name := "ytnpkdoggfnlapaagreatdoor", sum := "85488736f066ed2d434bf699bbcd8d79fc2b0dc6925a3f2d382b78043e650756", checked := Tryz.checked }
namespace Rows
def none {H : Type} : Left H := { results := [], args := [] }

/- WHAT THE LISTED PACKAGE-LEVEL VARIABLES READ AS WHEN THE CALL BEGINS. Each datum BY PROGRAM (the guide's laid-datum.mjs) off the statement by which the dump's own 'gosem.cut.vars' lays the variable. In a bare row this is a premise. The card (YtnpkdoggfnlapaaGreatDoorCards.lean) ties it to the program's text. -/
def laid_drawbridge_hash_steps {H : Type} : DataW H := .agg [.lit (.int .u32 1116352408), .lit (.int .u32 1899447441), .lit (.int .u32 3049323471), .lit (.int .u32 3921009573), .lit (.int .u32 961987163), .lit (.int .u32 1508970993), .lit (.int .u32 2453635748), .lit (.int .u32 2870763221), .lit (.int .u32 3624381080), .lit (.int .u32 310598401), .lit (.int .u32 607225278), .lit (.int .u32 1426881987), .lit (.int .u32 1925078388), .lit (.int .u32 2162078206), .lit (.int .u32 2614888103), .lit (.int .u32 3248222580), .lit (.int .u32 3835390401), .lit (.int .u32 4022224774), .lit (.int .u32 264347078), .lit (.int .u32 604807628), .lit (.int .u32 770255983), .lit (.int .u32 1249150122), .lit (.int .u32 1555081692), .lit (.int .u32 1996064986), .lit (.int .u32 2554220882), .lit (.int .u32 2821834349), .lit (.int .u32 2952996808), .lit (.int .u32 3210313671), .lit (.int .u32 3336571891), .lit (.int .u32 3584528711), .lit (.int .u32 113926993), .lit (.int .u32 338241895), .lit (.int .u32 666307205), .lit (.int .u32 773529912), .lit (.int .u32 1294757372), .lit (.int .u32 1396182291), .lit (.int .u32 1695183700), .lit (.int .u32 1986661051), .lit (.int .u32 2177026350), .lit (.int .u32 2456956037), .lit (.int .u32 2730485921), .lit (.int .u32 2820302411), .lit (.int .u32 3259730800), .lit (.int .u32 3345764771), .lit (.int .u32 3516065817), .lit (.int .u32 3600352804), .lit (.int .u32 4094571909), .lit (.int .u32 275423344), .lit (.int .u32 430227734), .lit (.int .u32 506948616), .lit (.int .u32 659060556), .lit (.int .u32 883997877), .lit (.int .u32 958139571), .lit (.int .u32 1322822218), .lit (.int .u32 1537002063), .lit (.int .u32 1747873779), .lit (.int .u32 1955562222), .lit (.int .u32 2024104815), .lit (.int .u32 2227730452), .lit (.int .u32 2361852424), .lit (.int .u32 2428436474), .lit (.int .u32 2756734187), .lit (.int .u32 3204031479), .lit (.int .u32 3329325298)]

/-- 'drawbridgelaw16.CeaseAll': WHATEVER THE INPUT: true; the input reads as it did. -/
def ceaseAllSpec : ChangeSpec := { name := "ceaseAll", fn := fun _ => fun
  | [d1, d2, d3] => { results := [.lit (.bool true)], args := [d1, d2, d3] }
  | _ => none }
def ceaseAllRow : OpenClaim := { program := "ytnpkdoggfnlapaagreatdoor", sum := "85488736f066ed2d434bf699bbcd8d79fc2b0dc6925a3f2d382b78043e650756", func := "drawbridge/drawbridgelaw16.CeaseAll", spec := "ceaseAll", inPlace := ["slices.overlaps[int]"], unfollowed := true, recurses := true, named := ["drawbridge/hash.steps"], plainKeys := false, apart := false, laid := [("drawbridge/hash.steps", laid_drawbridge_hash_steps)] }
def CeaseAllSaid : Prop := ceaseAllRow.holds Tryz.pinned (OpenSpec.ofChange ceaseAllSpec)

/-- ITS FALSE NEIGHBOUR: 'it returns false'. Refute it at one input. -/
def ceaseAllWrong : ChangeSpec := { name := "ceaseAll", fn := fun _ => fun
  | [d1, d2, d3] => { results := [.lit (.bool false)], args := [d1, d2, d3] }
  | _ => none }
def CeaseAllWrongFalsely : Prop := ceaseAllRow.holds Tryz.pinned (OpenSpec.ofChange ceaseAllWrong)

/-- 'drawbridgelaw16.CeaseMoney': WHATEVER THE INPUT: true; the input reads as it did. -/
def ceaseMoneySpec : ChangeSpec := { name := "ceaseMoney", fn := fun _ => fun
  | [d1, d2, d3] => { results := [.lit (.bool true)], args := [d1, d2, d3] }
  | _ => none }
def ceaseMoneyRow : OpenClaim := { program := "ytnpkdoggfnlapaagreatdoor", sum := "85488736f066ed2d434bf699bbcd8d79fc2b0dc6925a3f2d382b78043e650756", func := "drawbridge/drawbridgelaw16.CeaseMoney", spec := "ceaseMoney", inPlace := ["slices.overlaps[int]"], unfollowed := true, recurses := true, named := ["drawbridge/hash.steps"], plainKeys := false, apart := false, laid := [("drawbridge/hash.steps", laid_drawbridge_hash_steps)] }
def CeaseMoneySaid : Prop := ceaseMoneyRow.holds Tryz.pinned (OpenSpec.ofChange ceaseMoneySpec)

/-- ITS FALSE NEIGHBOUR: 'it returns false'. Refute it at one input. -/
def ceaseMoneyWrong : ChangeSpec := { name := "ceaseMoney", fn := fun _ => fun
  | [d1, d2, d3] => { results := [.lit (.bool false)], args := [d1, d2, d3] }
  | _ => none }
def CeaseMoneyWrongFalsely : Prop := ceaseMoneyRow.holds Tryz.pinned (OpenSpec.ofChange ceaseMoneyWrong)

/-- 'drawbridgelaw16.CeaseNot': WHATEVER THE INPUT: true; the input reads as it did. -/
def ceaseNotSpec : ChangeSpec := { name := "ceaseNot", fn := fun _ => fun
  | [d1, d2] => { results := [.lit (.bool true)], args := [d1, d2] }
  | _ => none }
def ceaseNotRow : OpenClaim := { program := "ytnpkdoggfnlapaagreatdoor", sum := "85488736f066ed2d434bf699bbcd8d79fc2b0dc6925a3f2d382b78043e650756", func := "drawbridge/drawbridgelaw16.CeaseNot", spec := "ceaseNot", inPlace := ["slices.overlaps[int]"], unfollowed := true, recurses := true, named := ["drawbridge/hash.steps"], plainKeys := false, apart := false, laid := [("drawbridge/hash.steps", laid_drawbridge_hash_steps)] }
def CeaseNotSaid : Prop := ceaseNotRow.holds Tryz.pinned (OpenSpec.ofChange ceaseNotSpec)

/-- ITS FALSE NEIGHBOUR: 'it returns false'. Refute it at one input. -/
def ceaseNotWrong : ChangeSpec := { name := "ceaseNot", fn := fun _ => fun
  | [d1, d2] => { results := [.lit (.bool false)], args := [d1, d2] }
  | _ => none }
def CeaseNotWrongFalsely : Prop := ceaseNotRow.holds Tryz.pinned (OpenSpec.ofChange ceaseNotWrong)

/-- 'drawbridgelaw16.CeaseKeeps': WHATEVER THE INPUT: true; the input reads as it did. -/
def ceaseKeepsSpec : ChangeSpec := { name := "ceaseKeeps", fn := fun _ => fun
  | [d1, d2] => { results := [.lit (.bool true)], args := [d1, d2] }
  | _ => none }
def ceaseKeepsRow : OpenClaim := { program := "ytnpkdoggfnlapaagreatdoor", sum := "85488736f066ed2d434bf699bbcd8d79fc2b0dc6925a3f2d382b78043e650756", func := "drawbridge/drawbridgelaw16.CeaseKeeps", spec := "ceaseKeeps", inPlace := ["slices.overlaps[int]"], unfollowed := true, recurses := true, named := ["drawbridge/hash.steps"], plainKeys := false, apart := false, laid := [("drawbridge/hash.steps", laid_drawbridge_hash_steps)] }
def CeaseKeepsSaid : Prop := ceaseKeepsRow.holds Tryz.pinned (OpenSpec.ofChange ceaseKeepsSpec)

/-- ITS FALSE NEIGHBOUR: 'it returns false'. Refute it at one input. -/
def ceaseKeepsWrong : ChangeSpec := { name := "ceaseKeeps", fn := fun _ => fun
  | [d1, d2] => { results := [.lit (.bool false)], args := [d1, d2] }
  | _ => none }
def CeaseKeepsWrongFalsely : Prop := ceaseKeepsRow.holds Tryz.pinned (OpenSpec.ofChange ceaseKeepsWrong)

/-- 'drawbridgelaw15.PayoutDue': WHATEVER THE INPUT: true; the input reads as it did. -/
def payoutDueSpec : ChangeSpec := { name := "payoutDue", fn := fun _ => fun
  | [d1, d2, d3] => { results := [.lit (.bool true)], args := [d1, d2, d3] }
  | _ => none }
def payoutDueRow : OpenClaim := { program := "ytnpkdoggfnlapaagreatdoor", sum := "85488736f066ed2d434bf699bbcd8d79fc2b0dc6925a3f2d382b78043e650756", func := "drawbridge/drawbridgelaw15.PayoutDue", spec := "payoutDue", unfollowed := true, recurses := true, named := ["drawbridge/hash.steps"], plainKeys := false, apart := false, laid := [("drawbridge/hash.steps", laid_drawbridge_hash_steps)] }
def PayoutDueSaid : Prop := payoutDueRow.holds Tryz.pinned (OpenSpec.ofChange payoutDueSpec)

/-- ITS FALSE NEIGHBOUR: 'it returns false'. Refute it at one input. -/
def payoutDueWrong : ChangeSpec := { name := "payoutDue", fn := fun _ => fun
  | [d1, d2, d3] => { results := [.lit (.bool false)], args := [d1, d2, d3] }
  | _ => none }
def PayoutDueWrongFalsely : Prop := payoutDueRow.holds Tryz.pinned (OpenSpec.ofChange payoutDueWrong)

/-- 'drawbridgelaw15.PayoutKeeps': WHATEVER THE INPUT: true; the input reads as it did. -/
def payoutKeepsSpec : ChangeSpec := { name := "payoutKeeps", fn := fun _ => fun
  | [d1, d2, d3] => { results := [.lit (.bool true)], args := [d1, d2, d3] }
  | _ => none }
def payoutKeepsRow : OpenClaim := { program := "ytnpkdoggfnlapaagreatdoor", sum := "85488736f066ed2d434bf699bbcd8d79fc2b0dc6925a3f2d382b78043e650756", func := "drawbridge/drawbridgelaw15.PayoutKeeps", spec := "payoutKeeps", unfollowed := true, recurses := true, named := ["drawbridge/hash.steps"], plainKeys := false, apart := false, laid := [("drawbridge/hash.steps", laid_drawbridge_hash_steps)] }
def PayoutKeepsSaid : Prop := payoutKeepsRow.holds Tryz.pinned (OpenSpec.ofChange payoutKeepsSpec)

/-- ITS FALSE NEIGHBOUR: 'it returns false'. Refute it at one input. -/
def payoutKeepsWrong : ChangeSpec := { name := "payoutKeeps", fn := fun _ => fun
  | [d1, d2, d3] => { results := [.lit (.bool false)], args := [d1, d2, d3] }
  | _ => none }
def PayoutKeepsWrongFalsely : Prop := payoutKeepsRow.holds Tryz.pinned (OpenSpec.ofChange payoutKeepsWrong)

/-- 'drawbridgelaw15.PayoutOnce': WHATEVER THE INPUT: true; the input reads as it did. -/
def payoutOnceSpec : ChangeSpec := { name := "payoutOnce", fn := fun _ => fun
  | [d1, d2] => { results := [.lit (.bool true)], args := [d1, d2] }
  | _ => none }
def payoutOnceRow : OpenClaim := { program := "ytnpkdoggfnlapaagreatdoor", sum := "85488736f066ed2d434bf699bbcd8d79fc2b0dc6925a3f2d382b78043e650756", func := "drawbridge/drawbridgelaw15.PayoutOnce", spec := "payoutOnce", unfollowed := true, recurses := true, named := ["drawbridge/hash.steps"], plainKeys := false, apart := false, laid := [("drawbridge/hash.steps", laid_drawbridge_hash_steps)] }
def PayoutOnceSaid : Prop := payoutOnceRow.holds Tryz.pinned (OpenSpec.ofChange payoutOnceSpec)

/-- ITS FALSE NEIGHBOUR: 'it returns false'. Refute it at one input. -/
def payoutOnceWrong : ChangeSpec := { name := "payoutOnce", fn := fun _ => fun
  | [d1, d2] => { results := [.lit (.bool false)], args := [d1, d2] }
  | _ => none }
def PayoutOnceWrongFalsely : Prop := payoutOnceRow.holds Tryz.pinned (OpenSpec.ofChange payoutOnceWrong)

/-- 'drawbridgelaw15.PayoutPays': WHATEVER THE INPUT: true; the input reads as it did. -/
def payoutPaysSpec : ChangeSpec := { name := "payoutPays", fn := fun _ => fun
  | [d1, d2] => { results := [.lit (.bool true)], args := [d1, d2] }
  | _ => none }
def payoutPaysRow : OpenClaim := { program := "ytnpkdoggfnlapaagreatdoor", sum := "85488736f066ed2d434bf699bbcd8d79fc2b0dc6925a3f2d382b78043e650756", func := "drawbridge/drawbridgelaw15.PayoutPays", spec := "payoutPays", unfollowed := true, recurses := true, named := ["drawbridge/hash.steps"], plainKeys := false, apart := false, laid := [("drawbridge/hash.steps", laid_drawbridge_hash_steps)] }
def PayoutPaysSaid : Prop := payoutPaysRow.holds Tryz.pinned (OpenSpec.ofChange payoutPaysSpec)

/-- ITS FALSE NEIGHBOUR: 'it returns false'. Refute it at one input. -/
def payoutPaysWrong : ChangeSpec := { name := "payoutPays", fn := fun _ => fun
  | [d1, d2] => { results := [.lit (.bool false)], args := [d1, d2] }
  | _ => none }
def PayoutPaysWrongFalsely : Prop := payoutPaysRow.holds Tryz.pinned (OpenSpec.ofChange payoutPaysWrong)

/-- 'drawbridgelaw15.PayoutEnds': WHATEVER THE INPUT: true; the input reads as it did. -/
def payoutEndsSpec : ChangeSpec := { name := "payoutEnds", fn := fun _ => fun
  | [d1, d2, d3] => { results := [.lit (.bool true)], args := [d1, d2, d3] }
  | _ => none }
def payoutEndsRow : OpenClaim := { program := "ytnpkdoggfnlapaagreatdoor", sum := "85488736f066ed2d434bf699bbcd8d79fc2b0dc6925a3f2d382b78043e650756", func := "drawbridge/drawbridgelaw15.PayoutEnds", spec := "payoutEnds", inPlace := ["internal/bytealg.Compare"], unfollowed := true, recurses := true, named := ["drawbridge/hash.steps"], plainKeys := false, apart := false, laid := [("drawbridge/hash.steps", laid_drawbridge_hash_steps)] }
def PayoutEndsSaid : Prop := payoutEndsRow.holds Tryz.pinned (OpenSpec.ofChange payoutEndsSpec)

/-- ITS FALSE NEIGHBOUR: 'it returns false'. Refute it at one input. -/
def payoutEndsWrong : ChangeSpec := { name := "payoutEnds", fn := fun _ => fun
  | [d1, d2, d3] => { results := [.lit (.bool false)], args := [d1, d2, d3] }
  | _ => none }
def PayoutEndsWrongFalsely : Prop := payoutEndsRow.holds Tryz.pinned (OpenSpec.ofChange payoutEndsWrong)

/-- 'drawbridgelaw16.CeaseTakes': WHATEVER THE INPUT: true; the input reads as it did. -/
def ceaseTakesSpec : ChangeSpec := { name := "ceaseTakes", fn := fun _ => fun
  | [d1, d2, d3] => { results := [.lit (.bool true)], args := [d1, d2, d3] }
  | _ => none }
def ceaseTakesRow : OpenClaim := { program := "ytnpkdoggfnlapaagreatdoor", sum := "85488736f066ed2d434bf699bbcd8d79fc2b0dc6925a3f2d382b78043e650756", func := "drawbridge/drawbridgelaw16.CeaseTakes", spec := "ceaseTakes", inPlace := ["slices.overlaps[int]", "internal/bytealg.Compare"], unfollowed := true, recurses := true, named := ["drawbridge/hash.steps"], plainKeys := false, apart := false, laid := [("drawbridge/hash.steps", laid_drawbridge_hash_steps)] }
def CeaseTakesSaid : Prop := ceaseTakesRow.holds Tryz.pinned (OpenSpec.ofChange ceaseTakesSpec)

/-- ITS FALSE NEIGHBOUR: 'it returns false'. Refute it at one input. -/
def ceaseTakesWrong : ChangeSpec := { name := "ceaseTakes", fn := fun _ => fun
  | [d1, d2, d3] => { results := [.lit (.bool false)], args := [d1, d2, d3] }
  | _ => none }
def CeaseTakesWrongFalsely : Prop := ceaseTakesRow.holds Tryz.pinned (OpenSpec.ofChange ceaseTakesWrong)

/- THE SECOND FORM. 'bulk': how many values and letters a reading holds, each counted each time it is reached (what is shared counts as often as it is met; a slice's spare places count too). A statement '..UptoSaid' is the law's where the arguments, and the package variables that the reading takes, are together of bulk at most 1048576: NARROWER than '..Said'. Prove '..Said' where nothing that the law and all that it calls make is longer than what came in: it says more and counts as full. Else prove '..UptoSaid'. A law counts once. -/
mutual
def uptoBulk {H : Type} : DataW H → Nat
  | .lit (.string bytes) => bytes.length + 1
  | .lit _ => 1
  | .nil => 1
  | .ptr d => uptoBulk d + 1
  | .slice elems spare => uptoBulkAll elems + uptoBulkAll spare + 1
  | .agg parts => uptoBulkAll parts + 1
  | .iface _ d => uptoBulk d + 1
  | .map entries => uptoBulkEntries entries + 1
  | .held _ => 1
def uptoBulkAll {H : Type} : List (DataW H) → Nat
  | [] => 0
  | d :: r => uptoBulk d + uptoBulkAll r
def uptoBulkEntries {H : Type} : List (Lit × DataW H) → Nat
  | [] => 0
  | x :: r => uptoBulkEntry x + uptoBulkEntries r
def uptoBulkEntry {H : Type} : Lit × DataW H → Nat
  | (.string bytes, d) => bytes.length + uptoBulk d + 1
  | (_, d) => uptoBulk d + 1
 end
def uptoSmall : (H : Type) → List (DataW H) → Bool := fun _ ds => decide (uptoBulkAll ds ≤ 1048576)
def OpenSpec.upto (s : _root_.Go.ChangeSpec) : _root_.Go.OpenSpec := { _root_.Go.OpenSpec.ofChange s with cond := some uptoSmall }

/-- 'drawbridgelaw16.CeaseAll', WHERE WHAT IT READS IS OF BULK AT MOST 1048576: true; the input reads as it did. -/
def ceaseAllUptoRow : OpenClaim := { program := "ytnpkdoggfnlapaagreatdoor", sum := "85488736f066ed2d434bf699bbcd8d79fc2b0dc6925a3f2d382b78043e650756", func := "drawbridge/drawbridgelaw16.CeaseAll", spec := "ceaseAll", inPlace := ["slices.overlaps[int]"], unfollowed := true, recurses := true, named := ["drawbridge/hash.steps"], plainKeys := false, apart := false, laid := [("drawbridge/hash.steps", laid_drawbridge_hash_steps)], narrowed := true }
def CeaseAllUptoSaid : Prop := ceaseAllUptoRow.holds Tryz.pinned (OpenSpec.upto ceaseAllSpec)

/-- 'drawbridgelaw16.CeaseMoney', WHERE WHAT IT READS IS OF BULK AT MOST 1048576: true; the input reads as it did. -/
def ceaseMoneyUptoRow : OpenClaim := { program := "ytnpkdoggfnlapaagreatdoor", sum := "85488736f066ed2d434bf699bbcd8d79fc2b0dc6925a3f2d382b78043e650756", func := "drawbridge/drawbridgelaw16.CeaseMoney", spec := "ceaseMoney", inPlace := ["slices.overlaps[int]"], unfollowed := true, recurses := true, named := ["drawbridge/hash.steps"], plainKeys := false, apart := false, laid := [("drawbridge/hash.steps", laid_drawbridge_hash_steps)], narrowed := true }
def CeaseMoneyUptoSaid : Prop := ceaseMoneyUptoRow.holds Tryz.pinned (OpenSpec.upto ceaseMoneySpec)

/-- 'drawbridgelaw16.CeaseNot', WHERE WHAT IT READS IS OF BULK AT MOST 1048576: true; the input reads as it did. -/
def ceaseNotUptoRow : OpenClaim := { program := "ytnpkdoggfnlapaagreatdoor", sum := "85488736f066ed2d434bf699bbcd8d79fc2b0dc6925a3f2d382b78043e650756", func := "drawbridge/drawbridgelaw16.CeaseNot", spec := "ceaseNot", inPlace := ["slices.overlaps[int]"], unfollowed := true, recurses := true, named := ["drawbridge/hash.steps"], plainKeys := false, apart := false, laid := [("drawbridge/hash.steps", laid_drawbridge_hash_steps)], narrowed := true }
def CeaseNotUptoSaid : Prop := ceaseNotUptoRow.holds Tryz.pinned (OpenSpec.upto ceaseNotSpec)

/-- 'drawbridgelaw16.CeaseKeeps', WHERE WHAT IT READS IS OF BULK AT MOST 1048576: true; the input reads as it did. -/
def ceaseKeepsUptoRow : OpenClaim := { program := "ytnpkdoggfnlapaagreatdoor", sum := "85488736f066ed2d434bf699bbcd8d79fc2b0dc6925a3f2d382b78043e650756", func := "drawbridge/drawbridgelaw16.CeaseKeeps", spec := "ceaseKeeps", inPlace := ["slices.overlaps[int]"], unfollowed := true, recurses := true, named := ["drawbridge/hash.steps"], plainKeys := false, apart := false, laid := [("drawbridge/hash.steps", laid_drawbridge_hash_steps)], narrowed := true }
def CeaseKeepsUptoSaid : Prop := ceaseKeepsUptoRow.holds Tryz.pinned (OpenSpec.upto ceaseKeepsSpec)

/-- 'drawbridgelaw15.PayoutDue', WHERE WHAT IT READS IS OF BULK AT MOST 1048576: true; the input reads as it did. -/
def payoutDueUptoRow : OpenClaim := { program := "ytnpkdoggfnlapaagreatdoor", sum := "85488736f066ed2d434bf699bbcd8d79fc2b0dc6925a3f2d382b78043e650756", func := "drawbridge/drawbridgelaw15.PayoutDue", spec := "payoutDue", unfollowed := true, recurses := true, named := ["drawbridge/hash.steps"], plainKeys := false, apart := false, laid := [("drawbridge/hash.steps", laid_drawbridge_hash_steps)], narrowed := true }
def PayoutDueUptoSaid : Prop := payoutDueUptoRow.holds Tryz.pinned (OpenSpec.upto payoutDueSpec)

/-- 'drawbridgelaw15.PayoutKeeps', WHERE WHAT IT READS IS OF BULK AT MOST 1048576: true; the input reads as it did. -/
def payoutKeepsUptoRow : OpenClaim := { program := "ytnpkdoggfnlapaagreatdoor", sum := "85488736f066ed2d434bf699bbcd8d79fc2b0dc6925a3f2d382b78043e650756", func := "drawbridge/drawbridgelaw15.PayoutKeeps", spec := "payoutKeeps", unfollowed := true, recurses := true, named := ["drawbridge/hash.steps"], plainKeys := false, apart := false, laid := [("drawbridge/hash.steps", laid_drawbridge_hash_steps)], narrowed := true }
def PayoutKeepsUptoSaid : Prop := payoutKeepsUptoRow.holds Tryz.pinned (OpenSpec.upto payoutKeepsSpec)

/-- 'drawbridgelaw15.PayoutOnce', WHERE WHAT IT READS IS OF BULK AT MOST 1048576: true; the input reads as it did. -/
def payoutOnceUptoRow : OpenClaim := { program := "ytnpkdoggfnlapaagreatdoor", sum := "85488736f066ed2d434bf699bbcd8d79fc2b0dc6925a3f2d382b78043e650756", func := "drawbridge/drawbridgelaw15.PayoutOnce", spec := "payoutOnce", unfollowed := true, recurses := true, named := ["drawbridge/hash.steps"], plainKeys := false, apart := false, laid := [("drawbridge/hash.steps", laid_drawbridge_hash_steps)], narrowed := true }
def PayoutOnceUptoSaid : Prop := payoutOnceUptoRow.holds Tryz.pinned (OpenSpec.upto payoutOnceSpec)

/-- 'drawbridgelaw15.PayoutPays', WHERE WHAT IT READS IS OF BULK AT MOST 1048576: true; the input reads as it did. -/
def payoutPaysUptoRow : OpenClaim := { program := "ytnpkdoggfnlapaagreatdoor", sum := "85488736f066ed2d434bf699bbcd8d79fc2b0dc6925a3f2d382b78043e650756", func := "drawbridge/drawbridgelaw15.PayoutPays", spec := "payoutPays", unfollowed := true, recurses := true, named := ["drawbridge/hash.steps"], plainKeys := false, apart := false, laid := [("drawbridge/hash.steps", laid_drawbridge_hash_steps)], narrowed := true }
def PayoutPaysUptoSaid : Prop := payoutPaysUptoRow.holds Tryz.pinned (OpenSpec.upto payoutPaysSpec)

/-- 'drawbridgelaw15.PayoutEnds', WHERE WHAT IT READS IS OF BULK AT MOST 1048576: true; the input reads as it did. -/
def payoutEndsUptoRow : OpenClaim := { program := "ytnpkdoggfnlapaagreatdoor", sum := "85488736f066ed2d434bf699bbcd8d79fc2b0dc6925a3f2d382b78043e650756", func := "drawbridge/drawbridgelaw15.PayoutEnds", spec := "payoutEnds", inPlace := ["internal/bytealg.Compare"], unfollowed := true, recurses := true, named := ["drawbridge/hash.steps"], plainKeys := false, apart := false, laid := [("drawbridge/hash.steps", laid_drawbridge_hash_steps)], narrowed := true }
def PayoutEndsUptoSaid : Prop := payoutEndsUptoRow.holds Tryz.pinned (OpenSpec.upto payoutEndsSpec)

/-- 'drawbridgelaw16.CeaseTakes', WHERE WHAT IT READS IS OF BULK AT MOST 1048576: true; the input reads as it did. -/
def ceaseTakesUptoRow : OpenClaim := { program := "ytnpkdoggfnlapaagreatdoor", sum := "85488736f066ed2d434bf699bbcd8d79fc2b0dc6925a3f2d382b78043e650756", func := "drawbridge/drawbridgelaw16.CeaseTakes", spec := "ceaseTakes", inPlace := ["slices.overlaps[int]", "internal/bytealg.Compare"], unfollowed := true, recurses := true, named := ["drawbridge/hash.steps"], plainKeys := false, apart := false, laid := [("drawbridge/hash.steps", laid_drawbridge_hash_steps)], narrowed := true }
def CeaseTakesUptoSaid : Prop := ceaseTakesUptoRow.holds Tryz.pinned (OpenSpec.upto ceaseTakesSpec)

end Rows
end Go.Proofs.YtnpkdoggfnlapaaGreatDoor
