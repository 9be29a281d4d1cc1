/-
  NARROWER THAN 'FOR EVERY INPUT', by the rows' own cells (each row's printed sentence says how): SignSpec: laid · SignRight: laid · SignMeans: laid · SignTwice: laid · DeedsSpec: laid · DeedsBound: laid · DeedsMade: laid · DeedsLog: laid · DeedsBeginning: laid · DeedsNext: laid.
  DERIVED. THE GIVEN ROWS OF THIS SEAT. 10 by the template 'for every input the law returns true; each argument reads behind the call as it read before'; 0 by the template 'total and deterministic' (their statements: YtjhecmmbpmpmgaaDoorTotals.lean).
  GIVEN WITH THE SEED: the statements are not yours to turn. If you find one false, say at which input.
  Laid BY PROGRAM, IN A SANDBOX (cutbox-rows.mjs): the forced cells as the released guide's own fill.sh prints them over the translation 09b6f0e58e3fc983… (all of the seat's roots in one cut). By AI agents, Wed Nov 11 2026. No macro, syntax, notation, axiom, sorry.
-/
import Derived.Test.YtjhecmmbpmpmgaaDoorChecked
import GoSem.Claim
import GoSem.ClaimJoined
import GoSem.ClaimMapViews
import Derived.JoinedTies
import Derived.KernelRfl
namespace Go.Proofs.YtjhecmmbpmpmgaaDoor
/- THE CELL 'sum', in the pinned program and in every row, IS THE sha256 OF THE DUMP (.gsa) THAT YtjhecmmbpmpmgaaDoorProg.lean LOADS. Nothing in Lean hashes anything: it is a label: what it is worth is what the hold of that sum in a sandbox is worth. -/
noncomputable def Tryd.pinned : Pinned := { name := "ytjhecmmbpmpmgaadoor", sum := "09b6f0e58e3fc983c1a79beccc2fea07d80664f82a9f3b5004c3c6498e98dc6a", checked := Tryd.checked }
namespace Rows
def none {H : Type} : Left H := { results := [], args := [] }

/- WHAT THE LISTED PACKAGE-LEVEL VARIABLES READ AS WHEN THE CALL BEGINS. Each datum BY PROGRAM (the guide's laid-datum.mjs) off the statement by which the dump's own 'gosem.cut.vars' lays the variable. In a bare row this is a premise. The card (YtjhecmmbpmpmgaaDoorCards.lean) ties it to the program's text. -/
def laid_signatory_digest_start {H : Type} : DataW H := .agg [.lit (.int .u32 1779033703), .lit (.int .u32 3144134277), .lit (.int .u32 1013904242), .lit (.int .u32 2773480762), .lit (.int .u32 1359893119), .lit (.int .u32 2600822924), .lit (.int .u32 528734635), .lit (.int .u32 1541459225)]
def laid_signatory_digest_numbers {H : Type} : DataW H := .agg [.lit (.int .u32 1116352408), .lit (.int .u32 1899447441), .lit (.int .u32 3049323471), .lit (.int .u32 3921009573), .lit (.int .u32 961987163), .lit (.int .u32 1508970993), .lit (.int .u32 2453635748), .lit (.int .u32 2870763221), .lit (.int .u32 3624381080), .lit (.int .u32 310598401), .lit (.int .u32 607225278), .lit (.int .u32 1426881987), .lit (.int .u32 1925078388), .lit (.int .u32 2162078206), .lit (.int .u32 2614888103), .lit (.int .u32 3248222580), .lit (.int .u32 3835390401), .lit (.int .u32 4022224774), .lit (.int .u32 264347078), .lit (.int .u32 604807628), .lit (.int .u32 770255983), .lit (.int .u32 1249150122), .lit (.int .u32 1555081692), .lit (.int .u32 1996064986), .lit (.int .u32 2554220882), .lit (.int .u32 2821834349), .lit (.int .u32 2952996808), .lit (.int .u32 3210313671), .lit (.int .u32 3336571891), .lit (.int .u32 3584528711), .lit (.int .u32 113926993), .lit (.int .u32 338241895), .lit (.int .u32 666307205), .lit (.int .u32 773529912), .lit (.int .u32 1294757372), .lit (.int .u32 1396182291), .lit (.int .u32 1695183700), .lit (.int .u32 1986661051), .lit (.int .u32 2177026350), .lit (.int .u32 2456956037), .lit (.int .u32 2730485921), .lit (.int .u32 2820302411), .lit (.int .u32 3259730800), .lit (.int .u32 3345764771), .lit (.int .u32 3516065817), .lit (.int .u32 3600352804), .lit (.int .u32 4094571909), .lit (.int .u32 275423344), .lit (.int .u32 430227734), .lit (.int .u32 506948616), .lit (.int .u32 659060556), .lit (.int .u32 883997877), .lit (.int .u32 958139571), .lit (.int .u32 1322822218), .lit (.int .u32 1537002063), .lit (.int .u32 1747873779), .lit (.int .u32 1955562222), .lit (.int .u32 2024104815), .lit (.int .u32 2227730452), .lit (.int .u32 2361852424), .lit (.int .u32 2428436474), .lit (.int .u32 2756734187), .lit (.int .u32 3204031479), .lit (.int .u32 3329325298)]

/-- 'signatorylaw11.SignSpec': WHATEVER THE INPUT: true; the input reads as it did. -/
def signSpecSpec : ChangeSpec := { name := "signSpec", fn := fun _ => fun
  | [d1, d2, d3, d4] => { results := [.lit (.bool true)], args := [d1, d2, d3, d4] }
  | _ => none }
def signSpecRow : OpenClaim := { program := "ytjhecmmbpmpmgaadoor", sum := "09b6f0e58e3fc983c1a79beccc2fea07d80664f82a9f3b5004c3c6498e98dc6a", func := "signatory/signatorylaw11.SignSpec", spec := "signSpec", unfollowed := true, recurses := true, named := ["signatory/digest.start", "signatory/digest.numbers"], plainKeys := false, apart := false, laid := [("signatory/digest.start", laid_signatory_digest_start), ("signatory/digest.numbers", laid_signatory_digest_numbers)] }
def SignSpecSaid : Prop := signSpecRow.holds Tryd.pinned (OpenSpec.ofChange signSpecSpec)

/-- ITS FALSE NEIGHBOUR: 'it returns false'. Refute it at one input. -/
def signSpecWrong : ChangeSpec := { name := "signSpec", fn := fun _ => fun
  | [d1, d2, d3, d4] => { results := [.lit (.bool false)], args := [d1, d2, d3, d4] }
  | _ => none }
def SignSpecWrongFalsely : Prop := signSpecRow.holds Tryd.pinned (OpenSpec.ofChange signSpecWrong)

/-- 'signatorylaw11.SignRight': WHATEVER THE INPUT: true; the input reads as it did. -/
def signRightSpec : ChangeSpec := { name := "signRight", fn := fun _ => fun
  | [d1, d2] => { results := [.lit (.bool true)], args := [d1, d2] }
  | _ => none }
def signRightRow : OpenClaim := { program := "ytjhecmmbpmpmgaadoor", sum := "09b6f0e58e3fc983c1a79beccc2fea07d80664f82a9f3b5004c3c6498e98dc6a", func := "signatory/signatorylaw11.SignRight", spec := "signRight", unfollowed := true, recurses := true, named := ["signatory/digest.start", "signatory/digest.numbers"], plainKeys := false, apart := false, laid := [("signatory/digest.start", laid_signatory_digest_start), ("signatory/digest.numbers", laid_signatory_digest_numbers)] }
def SignRightSaid : Prop := signRightRow.holds Tryd.pinned (OpenSpec.ofChange signRightSpec)

/-- ITS FALSE NEIGHBOUR: 'it returns false'. Refute it at one input. -/
def signRightWrong : ChangeSpec := { name := "signRight", fn := fun _ => fun
  | [d1, d2] => { results := [.lit (.bool false)], args := [d1, d2] }
  | _ => none }
def SignRightWrongFalsely : Prop := signRightRow.holds Tryd.pinned (OpenSpec.ofChange signRightWrong)

/-- 'signatorylaw11.SignMeans': WHATEVER THE INPUT: true; the input reads as it did. -/
def signMeansSpec : ChangeSpec := { name := "signMeans", fn := fun _ => fun
  | [d1, d2, d3] => { results := [.lit (.bool true)], args := [d1, d2, d3] }
  | _ => none }
def signMeansRow : OpenClaim := { program := "ytjhecmmbpmpmgaadoor", sum := "09b6f0e58e3fc983c1a79beccc2fea07d80664f82a9f3b5004c3c6498e98dc6a", func := "signatory/signatorylaw11.SignMeans", spec := "signMeans", unfollowed := true, recurses := true, named := ["signatory/digest.start", "signatory/digest.numbers"], plainKeys := false, apart := false, laid := [("signatory/digest.start", laid_signatory_digest_start), ("signatory/digest.numbers", laid_signatory_digest_numbers)] }
def SignMeansSaid : Prop := signMeansRow.holds Tryd.pinned (OpenSpec.ofChange signMeansSpec)

/-- ITS FALSE NEIGHBOUR: 'it returns false'. Refute it at one input. -/
def signMeansWrong : ChangeSpec := { name := "signMeans", fn := fun _ => fun
  | [d1, d2, d3] => { results := [.lit (.bool false)], args := [d1, d2, d3] }
  | _ => none }
def SignMeansWrongFalsely : Prop := signMeansRow.holds Tryd.pinned (OpenSpec.ofChange signMeansWrong)

/-- 'signatorylaw11.SignTwice': WHATEVER THE INPUT: true; the input reads as it did. -/
def signTwiceSpec : ChangeSpec := { name := "signTwice", fn := fun _ => fun
  | [d1, d2, d3, d4, d5, d6] => { results := [.lit (.bool true)], args := [d1, d2, d3, d4, d5, d6] }
  | _ => none }
def signTwiceRow : OpenClaim := { program := "ytjhecmmbpmpmgaadoor", sum := "09b6f0e58e3fc983c1a79beccc2fea07d80664f82a9f3b5004c3c6498e98dc6a", func := "signatory/signatorylaw11.SignTwice", spec := "signTwice", unfollowed := true, recurses := true, named := ["signatory/digest.start", "signatory/digest.numbers"], plainKeys := false, apart := false, laid := [("signatory/digest.start", laid_signatory_digest_start), ("signatory/digest.numbers", laid_signatory_digest_numbers)] }
def SignTwiceSaid : Prop := signTwiceRow.holds Tryd.pinned (OpenSpec.ofChange signTwiceSpec)

/-- ITS FALSE NEIGHBOUR: 'it returns false'. Refute it at one input. -/
def signTwiceWrong : ChangeSpec := { name := "signTwice", fn := fun _ => fun
  | [d1, d2, d3, d4, d5, d6] => { results := [.lit (.bool false)], args := [d1, d2, d3, d4, d5, d6] }
  | _ => none }
def SignTwiceWrongFalsely : Prop := signTwiceRow.holds Tryd.pinned (OpenSpec.ofChange signTwiceWrong)

/-- 'signatorylaw49.DeedsSpec': WHATEVER THE INPUT: true; the input reads as it did. -/
def deedsSpecSpec : ChangeSpec := { name := "deedsSpec", fn := fun _ => fun
  | [d1, d2] => { results := [.lit (.bool true)], args := [d1, d2] }
  | _ => none }
def deedsSpecRow : OpenClaim := { program := "ytjhecmmbpmpmgaadoor", sum := "09b6f0e58e3fc983c1a79beccc2fea07d80664f82a9f3b5004c3c6498e98dc6a", func := "signatory/signatorylaw49.DeedsSpec", spec := "deedsSpec", inPlace := ["internal/bytealg.Compare"], unfollowed := true, recurses := true, named := ["signatory/digest.start", "signatory/digest.numbers"], plainKeys := false, apart := false, laid := [("signatory/digest.start", laid_signatory_digest_start), ("signatory/digest.numbers", laid_signatory_digest_numbers)] }
def DeedsSpecSaid : Prop := deedsSpecRow.holds Tryd.pinned (OpenSpec.ofChange deedsSpecSpec)

/-- ITS FALSE NEIGHBOUR: 'it returns false'. Refute it at one input. -/
def deedsSpecWrong : ChangeSpec := { name := "deedsSpec", fn := fun _ => fun
  | [d1, d2] => { results := [.lit (.bool false)], args := [d1, d2] }
  | _ => none }
def DeedsSpecWrongFalsely : Prop := deedsSpecRow.holds Tryd.pinned (OpenSpec.ofChange deedsSpecWrong)

/-- 'signatorylaw49.DeedsBound': WHATEVER THE INPUT: true; the input reads as it did. -/
def deedsBoundSpec : ChangeSpec := { name := "deedsBound", fn := fun _ => fun
  | [d1, d2] => { results := [.lit (.bool true)], args := [d1, d2] }
  | _ => none }
def deedsBoundRow : OpenClaim := { program := "ytjhecmmbpmpmgaadoor", sum := "09b6f0e58e3fc983c1a79beccc2fea07d80664f82a9f3b5004c3c6498e98dc6a", func := "signatory/signatorylaw49.DeedsBound", spec := "deedsBound", inPlace := ["internal/bytealg.Compare"], unfollowed := true, recurses := true, named := ["signatory/digest.start", "signatory/digest.numbers"], plainKeys := false, apart := false, laid := [("signatory/digest.start", laid_signatory_digest_start), ("signatory/digest.numbers", laid_signatory_digest_numbers)] }
def DeedsBoundSaid : Prop := deedsBoundRow.holds Tryd.pinned (OpenSpec.ofChange deedsBoundSpec)

/-- ITS FALSE NEIGHBOUR: 'it returns false'. Refute it at one input. -/
def deedsBoundWrong : ChangeSpec := { name := "deedsBound", fn := fun _ => fun
  | [d1, d2] => { results := [.lit (.bool false)], args := [d1, d2] }
  | _ => none }
def DeedsBoundWrongFalsely : Prop := deedsBoundRow.holds Tryd.pinned (OpenSpec.ofChange deedsBoundWrong)

/-- 'signatorylaw49.DeedsMade': WHATEVER THE INPUT: true; the input reads as it did. -/
def deedsMadeSpec : ChangeSpec := { name := "deedsMade", fn := fun _ => fun
  | [d1, d2] => { results := [.lit (.bool true)], args := [d1, d2] }
  | _ => none }
def deedsMadeRow : OpenClaim := { program := "ytjhecmmbpmpmgaadoor", sum := "09b6f0e58e3fc983c1a79beccc2fea07d80664f82a9f3b5004c3c6498e98dc6a", func := "signatory/signatorylaw49.DeedsMade", spec := "deedsMade", inPlace := ["internal/bytealg.Compare"], unfollowed := true, recurses := true, named := ["signatory/digest.start", "signatory/digest.numbers"], plainKeys := false, apart := false, laid := [("signatory/digest.start", laid_signatory_digest_start), ("signatory/digest.numbers", laid_signatory_digest_numbers)] }
def DeedsMadeSaid : Prop := deedsMadeRow.holds Tryd.pinned (OpenSpec.ofChange deedsMadeSpec)

/-- ITS FALSE NEIGHBOUR: 'it returns false'. Refute it at one input. -/
def deedsMadeWrong : ChangeSpec := { name := "deedsMade", fn := fun _ => fun
  | [d1, d2] => { results := [.lit (.bool false)], args := [d1, d2] }
  | _ => none }
def DeedsMadeWrongFalsely : Prop := deedsMadeRow.holds Tryd.pinned (OpenSpec.ofChange deedsMadeWrong)

/-- 'signatorylaw49.DeedsLog': WHATEVER THE INPUT: true; the input reads as it did. -/
def deedsLogSpec : ChangeSpec := { name := "deedsLog", fn := fun _ => fun
  | [d1, d2] => { results := [.lit (.bool true)], args := [d1, d2] }
  | _ => none }
def deedsLogRow : OpenClaim := { program := "ytjhecmmbpmpmgaadoor", sum := "09b6f0e58e3fc983c1a79beccc2fea07d80664f82a9f3b5004c3c6498e98dc6a", func := "signatory/signatorylaw49.DeedsLog", spec := "deedsLog", inPlace := ["internal/bytealg.Compare"], unfollowed := true, recurses := true, named := ["signatory/digest.start", "signatory/digest.numbers"], plainKeys := false, apart := false, laid := [("signatory/digest.start", laid_signatory_digest_start), ("signatory/digest.numbers", laid_signatory_digest_numbers)] }
def DeedsLogSaid : Prop := deedsLogRow.holds Tryd.pinned (OpenSpec.ofChange deedsLogSpec)

/-- ITS FALSE NEIGHBOUR: 'it returns false'. Refute it at one input. -/
def deedsLogWrong : ChangeSpec := { name := "deedsLog", fn := fun _ => fun
  | [d1, d2] => { results := [.lit (.bool false)], args := [d1, d2] }
  | _ => none }
def DeedsLogWrongFalsely : Prop := deedsLogRow.holds Tryd.pinned (OpenSpec.ofChange deedsLogWrong)

/-- 'signatorylaw49.DeedsBeginning': WHATEVER THE INPUT: true; the input reads as it did. -/
def deedsBeginningSpec : ChangeSpec := { name := "deedsBeginning", fn := fun _ => fun
  | [d1, d2, d3] => { results := [.lit (.bool true)], args := [d1, d2, d3] }
  | _ => none }
def deedsBeginningRow : OpenClaim := { program := "ytjhecmmbpmpmgaadoor", sum := "09b6f0e58e3fc983c1a79beccc2fea07d80664f82a9f3b5004c3c6498e98dc6a", func := "signatory/signatorylaw49.DeedsBeginning", spec := "deedsBeginning", inPlace := ["internal/bytealg.Compare"], unfollowed := true, recurses := true, named := ["signatory/digest.start", "signatory/digest.numbers"], plainKeys := false, apart := false, laid := [("signatory/digest.start", laid_signatory_digest_start), ("signatory/digest.numbers", laid_signatory_digest_numbers)] }
def DeedsBeginningSaid : Prop := deedsBeginningRow.holds Tryd.pinned (OpenSpec.ofChange deedsBeginningSpec)

/-- ITS FALSE NEIGHBOUR: 'it returns false'. Refute it at one input. -/
def deedsBeginningWrong : ChangeSpec := { name := "deedsBeginning", fn := fun _ => fun
  | [d1, d2, d3] => { results := [.lit (.bool false)], args := [d1, d2, d3] }
  | _ => none }
def DeedsBeginningWrongFalsely : Prop := deedsBeginningRow.holds Tryd.pinned (OpenSpec.ofChange deedsBeginningWrong)

/-- 'signatorylaw49.DeedsNext': WHATEVER THE INPUT: true; the input reads as it did. -/
def deedsNextSpec : ChangeSpec := { name := "deedsNext", fn := fun _ => fun
  | [d1, d2, d3, d4, d5, d6] => { results := [.lit (.bool true)], args := [d1, d2, d3, d4, d5, d6] }
  | _ => none }
def deedsNextRow : OpenClaim := { program := "ytjhecmmbpmpmgaadoor", sum := "09b6f0e58e3fc983c1a79beccc2fea07d80664f82a9f3b5004c3c6498e98dc6a", func := "signatory/signatorylaw49.DeedsNext", spec := "deedsNext", inPlace := ["internal/bytealg.Compare"], unfollowed := true, recurses := true, named := ["signatory/digest.start", "signatory/digest.numbers"], plainKeys := false, apart := false, laid := [("signatory/digest.start", laid_signatory_digest_start), ("signatory/digest.numbers", laid_signatory_digest_numbers)] }
def DeedsNextSaid : Prop := deedsNextRow.holds Tryd.pinned (OpenSpec.ofChange deedsNextSpec)

/-- ITS FALSE NEIGHBOUR: 'it returns false'. Refute it at one input. -/
def deedsNextWrong : ChangeSpec := { name := "deedsNext", fn := fun _ => fun
  | [d1, d2, d3, d4, d5, d6] => { results := [.lit (.bool false)], args := [d1, d2, d3, d4, d5, d6] }
  | _ => none }
def DeedsNextWrongFalsely : Prop := deedsNextRow.holds Tryd.pinned (OpenSpec.ofChange deedsNextWrong)

/- THE SECOND FORM. 'bulk': how many values and letters a reading holds, each counted each time it is reached (what is shared counts as often as it is met; a slice's spare places count too). A statement '..UptoSaid' is the law's where the arguments, and the package variables that the reading takes, are together of bulk at most 1048576: NARROWER than '..Said'. Prove '..Said' where nothing that the law and all that it calls make is longer than what came in: it says more and counts as full. Else prove '..UptoSaid'. A law counts once. -/
mutual
def uptoBulk {H : Type} : DataW H → Nat
  | .lit (.string bytes) => bytes.length + 1
  | .lit _ => 1
  | .nil => 1
  | .ptr d => uptoBulk d + 1
  | .slice elems spare => uptoBulkAll elems + uptoBulkAll spare + 1
  | .agg parts => uptoBulkAll parts + 1
  | .iface _ d => uptoBulk d + 1
  | .map entries => uptoBulkEntries entries + 1
  | .held _ => 1
def uptoBulkAll {H : Type} : List (DataW H) → Nat
  | [] => 0
  | d :: r => uptoBulk d + uptoBulkAll r
def uptoBulkEntries {H : Type} : List (Lit × DataW H) → Nat
  | [] => 0
  | x :: r => uptoBulkEntry x + uptoBulkEntries r
def uptoBulkEntry {H : Type} : Lit × DataW H → Nat
  | (.string bytes, d) => bytes.length + uptoBulk d + 1
  | (_, d) => uptoBulk d + 1
 end
def uptoSmall : (H : Type) → List (DataW H) → Bool := fun _ ds => decide (uptoBulkAll ds ≤ 1048576)
def OpenSpec.upto (s : _root_.Go.ChangeSpec) : _root_.Go.OpenSpec := { _root_.Go.OpenSpec.ofChange s with cond := some uptoSmall }

/-- 'signatorylaw11.SignSpec', WHERE WHAT IT READS IS OF BULK AT MOST 1048576: true; the input reads as it did. -/
def signSpecUptoRow : OpenClaim := { program := "ytjhecmmbpmpmgaadoor", sum := "09b6f0e58e3fc983c1a79beccc2fea07d80664f82a9f3b5004c3c6498e98dc6a", func := "signatory/signatorylaw11.SignSpec", spec := "signSpec", unfollowed := true, recurses := true, named := ["signatory/digest.start", "signatory/digest.numbers"], plainKeys := false, apart := false, laid := [("signatory/digest.start", laid_signatory_digest_start), ("signatory/digest.numbers", laid_signatory_digest_numbers)], narrowed := true }
def SignSpecUptoSaid : Prop := signSpecUptoRow.holds Tryd.pinned (OpenSpec.upto signSpecSpec)

/-- 'signatorylaw11.SignRight', WHERE WHAT IT READS IS OF BULK AT MOST 1048576: true; the input reads as it did. -/
def signRightUptoRow : OpenClaim := { program := "ytjhecmmbpmpmgaadoor", sum := "09b6f0e58e3fc983c1a79beccc2fea07d80664f82a9f3b5004c3c6498e98dc6a", func := "signatory/signatorylaw11.SignRight", spec := "signRight", unfollowed := true, recurses := true, named := ["signatory/digest.start", "signatory/digest.numbers"], plainKeys := false, apart := false, laid := [("signatory/digest.start", laid_signatory_digest_start), ("signatory/digest.numbers", laid_signatory_digest_numbers)], narrowed := true }
def SignRightUptoSaid : Prop := signRightUptoRow.holds Tryd.pinned (OpenSpec.upto signRightSpec)

/-- 'signatorylaw11.SignMeans', WHERE WHAT IT READS IS OF BULK AT MOST 1048576: true; the input reads as it did. -/
def signMeansUptoRow : OpenClaim := { program := "ytjhecmmbpmpmgaadoor", sum := "09b6f0e58e3fc983c1a79beccc2fea07d80664f82a9f3b5004c3c6498e98dc6a", func := "signatory/signatorylaw11.SignMeans", spec := "signMeans", unfollowed := true, recurses := true, named := ["signatory/digest.start", "signatory/digest.numbers"], plainKeys := false, apart := false, laid := [("signatory/digest.start", laid_signatory_digest_start), ("signatory/digest.numbers", laid_signatory_digest_numbers)], narrowed := true }
def SignMeansUptoSaid : Prop := signMeansUptoRow.holds Tryd.pinned (OpenSpec.upto signMeansSpec)

/-- 'signatorylaw11.SignTwice', WHERE WHAT IT READS IS OF BULK AT MOST 1048576: true; the input reads as it did. -/
def signTwiceUptoRow : OpenClaim := { program := "ytjhecmmbpmpmgaadoor", sum := "09b6f0e58e3fc983c1a79beccc2fea07d80664f82a9f3b5004c3c6498e98dc6a", func := "signatory/signatorylaw11.SignTwice", spec := "signTwice", unfollowed := true, recurses := true, named := ["signatory/digest.start", "signatory/digest.numbers"], plainKeys := false, apart := false, laid := [("signatory/digest.start", laid_signatory_digest_start), ("signatory/digest.numbers", laid_signatory_digest_numbers)], narrowed := true }
def SignTwiceUptoSaid : Prop := signTwiceUptoRow.holds Tryd.pinned (OpenSpec.upto signTwiceSpec)

/-- 'signatorylaw49.DeedsSpec', WHERE WHAT IT READS IS OF BULK AT MOST 1048576: true; the input reads as it did. -/
def deedsSpecUptoRow : OpenClaim := { program := "ytjhecmmbpmpmgaadoor", sum := "09b6f0e58e3fc983c1a79beccc2fea07d80664f82a9f3b5004c3c6498e98dc6a", func := "signatory/signatorylaw49.DeedsSpec", spec := "deedsSpec", inPlace := ["internal/bytealg.Compare"], unfollowed := true, recurses := true, named := ["signatory/digest.start", "signatory/digest.numbers"], plainKeys := false, apart := false, laid := [("signatory/digest.start", laid_signatory_digest_start), ("signatory/digest.numbers", laid_signatory_digest_numbers)], narrowed := true }
def DeedsSpecUptoSaid : Prop := deedsSpecUptoRow.holds Tryd.pinned (OpenSpec.upto deedsSpecSpec)

/-- 'signatorylaw49.DeedsBound', WHERE WHAT IT READS IS OF BULK AT MOST 1048576: true; the input reads as it did. -/
def deedsBoundUptoRow : OpenClaim := { program := "ytjhecmmbpmpmgaadoor", sum := "09b6f0e58e3fc983c1a79beccc2fea07d80664f82a9f3b5004c3c6498e98dc6a", func := "signatory/signatorylaw49.DeedsBound", spec := "deedsBound", inPlace := ["internal/bytealg.Compare"], unfollowed := true, recurses := true, named := ["signatory/digest.start", "signatory/digest.numbers"], plainKeys := false, apart := false, laid := [("signatory/digest.start", laid_signatory_digest_start), ("signatory/digest.numbers", laid_signatory_digest_numbers)], narrowed := true }
def DeedsBoundUptoSaid : Prop := deedsBoundUptoRow.holds Tryd.pinned (OpenSpec.upto deedsBoundSpec)

/-- 'signatorylaw49.DeedsMade', WHERE WHAT IT READS IS OF BULK AT MOST 1048576: true; the input reads as it did. -/
def deedsMadeUptoRow : OpenClaim := { program := "ytjhecmmbpmpmgaadoor", sum := "09b6f0e58e3fc983c1a79beccc2fea07d80664f82a9f3b5004c3c6498e98dc6a", func := "signatory/signatorylaw49.DeedsMade", spec := "deedsMade", inPlace := ["internal/bytealg.Compare"], unfollowed := true, recurses := true, named := ["signatory/digest.start", "signatory/digest.numbers"], plainKeys := false, apart := false, laid := [("signatory/digest.start", laid_signatory_digest_start), ("signatory/digest.numbers", laid_signatory_digest_numbers)], narrowed := true }
def DeedsMadeUptoSaid : Prop := deedsMadeUptoRow.holds Tryd.pinned (OpenSpec.upto deedsMadeSpec)

/-- 'signatorylaw49.DeedsLog', WHERE WHAT IT READS IS OF BULK AT MOST 1048576: true; the input reads as it did. -/
def deedsLogUptoRow : OpenClaim := { program := "ytjhecmmbpmpmgaadoor", sum := "09b6f0e58e3fc983c1a79beccc2fea07d80664f82a9f3b5004c3c6498e98dc6a", func := "signatory/signatorylaw49.DeedsLog", spec := "deedsLog", inPlace := ["internal/bytealg.Compare"], unfollowed := true, recurses := true, named := ["signatory/digest.start", "signatory/digest.numbers"], plainKeys := false, apart := false, laid := [("signatory/digest.start", laid_signatory_digest_start), ("signatory/digest.numbers", laid_signatory_digest_numbers)], narrowed := true }
def DeedsLogUptoSaid : Prop := deedsLogUptoRow.holds Tryd.pinned (OpenSpec.upto deedsLogSpec)

/-- 'signatorylaw49.DeedsBeginning', WHERE WHAT IT READS IS OF BULK AT MOST 1048576: true; the input reads as it did. -/
def deedsBeginningUptoRow : OpenClaim := { program := "ytjhecmmbpmpmgaadoor", sum := "09b6f0e58e3fc983c1a79beccc2fea07d80664f82a9f3b5004c3c6498e98dc6a", func := "signatory/signatorylaw49.DeedsBeginning", spec := "deedsBeginning", inPlace := ["internal/bytealg.Compare"], unfollowed := true, recurses := true, named := ["signatory/digest.start", "signatory/digest.numbers"], plainKeys := false, apart := false, laid := [("signatory/digest.start", laid_signatory_digest_start), ("signatory/digest.numbers", laid_signatory_digest_numbers)], narrowed := true }
def DeedsBeginningUptoSaid : Prop := deedsBeginningUptoRow.holds Tryd.pinned (OpenSpec.upto deedsBeginningSpec)

/-- 'signatorylaw49.DeedsNext', WHERE WHAT IT READS IS OF BULK AT MOST 1048576: true; the input reads as it did. -/
def deedsNextUptoRow : OpenClaim := { program := "ytjhecmmbpmpmgaadoor", sum := "09b6f0e58e3fc983c1a79beccc2fea07d80664f82a9f3b5004c3c6498e98dc6a", func := "signatory/signatorylaw49.DeedsNext", spec := "deedsNext", inPlace := ["internal/bytealg.Compare"], unfollowed := true, recurses := true, named := ["signatory/digest.start", "signatory/digest.numbers"], plainKeys := false, apart := false, laid := [("signatory/digest.start", laid_signatory_digest_start), ("signatory/digest.numbers", laid_signatory_digest_numbers)], narrowed := true }
def DeedsNextUptoSaid : Prop := deedsNextUptoRow.holds Tryd.pinned (OpenSpec.upto deedsNextSpec)

end Rows
end Go.Proofs.YtjhecmmbpmpmgaaDoor
