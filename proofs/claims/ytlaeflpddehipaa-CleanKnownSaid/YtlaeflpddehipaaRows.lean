/-
  No cell of these rows narrows 'for every input' (looked for: loops, veiled, ifaces, maps, wideKeys, modest, calm, conditions, laid).
  DERIVED. THE GIVEN ROWS OF THIS SEAT. 9 by the template 'for every input the law returns true; each argument reads behind the call as it read before'; 0 by the template 'total and deterministic' (their statements: YtlaeflpddehipaaTotals.lean).
  GIVEN WITH THE SEED: the statements are not yours to turn. If you find one false, say at which input.
  Laid BY PROGRAM, IN A SANDBOX (cutbox-rows.mjs): the forced cells as the released guide's own fill.sh prints them over the translation 8756709db1bdab24… (all of the seat's roots in one cut). By AI agents, Wed Nov 11 2026. No macro, syntax, notation, axiom, sorry.
-/
import Derived.Test.YtlaeflpddehipaaChecked
import GoSem.Claim
import GoSem.ClaimJoined
import GoSem.ClaimMapViews
import Derived.JoinedTies
import Derived.KernelRfl
namespace Go.Proofs.Ytlaeflpddehipaa
/- THE CELL 'sum', in the pinned program and in every row, IS THE sha256 OF THE DUMP (.gsa) THAT YtlaeflpddehipaaProg.lean LOADS. Nothing in Lean hashes anything: it is a label: what it is worth is what the hold of that sum in a sandbox is worth. -/
noncomputable def Try.pinned : Pinned := { name := "ytlaeflpddehipaa", sum := "8756709db1bdab24bc897590ddf31b44664cf7dc072504514936e2dc23746871", checked := Try.checked }
namespace Rows
def none {H : Type} : Left H := { results := [], args := [] }

/-- 'rungworkkeep.ImageSmall': WHATEVER THE INPUT: true; the input reads as it did. -/
def imageSmallSpec : ChangeSpec := { name := "imageSmall", fn := fun _ => fun
  | [d] => { results := [.lit (.bool true)], args := [d] }
  | _ => none }
def imageSmallRow : OpenClaim := { program := "ytlaeflpddehipaa", sum := "8756709db1bdab24bc897590ddf31b44664cf7dc072504514936e2dc23746871", func := "rungwork/rungworkkeep.ImageSmall", spec := "imageSmall", unfollowed := true, recurses := true, plainKeys := false, apart := false }
def ImageSmallSaid : Prop := imageSmallRow.holds Try.pinned (OpenSpec.ofChange imageSmallSpec)

/-- ITS FALSE NEIGHBOUR: 'it returns false'. Refute it at one input. -/
def imageSmallWrong : ChangeSpec := { name := "imageSmall", fn := fun _ => fun
  | [d] => { results := [.lit (.bool false)], args := [d] }
  | _ => none }
def ImageSmallWrongFalsely : Prop := imageSmallRow.holds Try.pinned (OpenSpec.ofChange imageSmallWrong)

/-- 'rungworkkeep.ValueLaws': WHATEVER THE INPUT: true; the input reads as it did. -/
def valueLawsSpec : ChangeSpec := { name := "valueLaws", fn := fun _ => fun
  | [d1, d2, d3, d4] => { results := [.lit (.bool true)], args := [d1, d2, d3, d4] }
  | _ => none }
def valueLawsRow : OpenClaim := { program := "ytlaeflpddehipaa", sum := "8756709db1bdab24bc897590ddf31b44664cf7dc072504514936e2dc23746871", func := "rungwork/rungworkkeep.ValueLaws", spec := "valueLaws", unfollowed := true, recurses := true, plainKeys := false, apart := false }
def ValueLawsSaid : Prop := valueLawsRow.holds Try.pinned (OpenSpec.ofChange valueLawsSpec)

/-- ITS FALSE NEIGHBOUR: 'it returns false'. Refute it at one input. -/
def valueLawsWrong : ChangeSpec := { name := "valueLaws", fn := fun _ => fun
  | [d1, d2, d3, d4] => { results := [.lit (.bool false)], args := [d1, d2, d3, d4] }
  | _ => none }
def ValueLawsWrongFalsely : Prop := valueLawsRow.holds Try.pinned (OpenSpec.ofChange valueLawsWrong)

/-- 'rungworkkeep.ValueLists': WHATEVER THE INPUT: true; the input reads as it did. -/
def valueListsSpec : ChangeSpec := { name := "valueLists", fn := fun _ => fun
  | [d1, d2] => { results := [.lit (.bool true)], args := [d1, d2] }
  | _ => none }
def valueListsRow : OpenClaim := { program := "ytlaeflpddehipaa", sum := "8756709db1bdab24bc897590ddf31b44664cf7dc072504514936e2dc23746871", func := "rungwork/rungworkkeep.ValueLists", spec := "valueLists", unfollowed := true, recurses := true, plainKeys := false, apart := false }
def ValueListsSaid : Prop := valueListsRow.holds Try.pinned (OpenSpec.ofChange valueListsSpec)

/-- ITS FALSE NEIGHBOUR: 'it returns false'. Refute it at one input. -/
def valueListsWrong : ChangeSpec := { name := "valueLists", fn := fun _ => fun
  | [d1, d2] => { results := [.lit (.bool false)], args := [d1, d2] }
  | _ => none }
def ValueListsWrongFalsely : Prop := valueListsRow.holds Try.pinned (OpenSpec.ofChange valueListsWrong)

/-- 'rungworkkeep.GateTwice': WHATEVER THE INPUT: true; the input reads as it did. -/
def gateTwiceSpec : ChangeSpec := { name := "gateTwice", fn := fun _ => fun
  | [d1, d2] => { results := [.lit (.bool true)], args := [d1, d2] }
  | _ => none }
def gateTwiceRow : OpenClaim := { program := "ytlaeflpddehipaa", sum := "8756709db1bdab24bc897590ddf31b44664cf7dc072504514936e2dc23746871", func := "rungwork/rungworkkeep.GateTwice", spec := "gateTwice", unfollowed := true, recurses := true, plainKeys := false, apart := false }
def GateTwiceSaid : Prop := gateTwiceRow.holds Try.pinned (OpenSpec.ofChange gateTwiceSpec)

/-- ITS FALSE NEIGHBOUR: 'it returns false'. Refute it at one input. -/
def gateTwiceWrong : ChangeSpec := { name := "gateTwice", fn := fun _ => fun
  | [d1, d2] => { results := [.lit (.bool false)], args := [d1, d2] }
  | _ => none }
def GateTwiceWrongFalsely : Prop := gateTwiceRow.holds Try.pinned (OpenSpec.ofChange gateTwiceWrong)

/-- 'rungworkkeep.GateJoins': WHATEVER THE INPUT: true; the input reads as it did. -/
def gateJoinsSpec : ChangeSpec := { name := "gateJoins", fn := fun _ => fun
  | [d1, d2, d3, d4] => { results := [.lit (.bool true)], args := [d1, d2, d3, d4] }
  | _ => none }
def gateJoinsRow : OpenClaim := { program := "ytlaeflpddehipaa", sum := "8756709db1bdab24bc897590ddf31b44664cf7dc072504514936e2dc23746871", func := "rungwork/rungworkkeep.GateJoins", spec := "gateJoins", unfollowed := true, recurses := true, plainKeys := false, apart := false }
def GateJoinsSaid : Prop := gateJoinsRow.holds Try.pinned (OpenSpec.ofChange gateJoinsSpec)

/-- ITS FALSE NEIGHBOUR: 'it returns false'. Refute it at one input. -/
def gateJoinsWrong : ChangeSpec := { name := "gateJoins", fn := fun _ => fun
  | [d1, d2, d3, d4] => { results := [.lit (.bool false)], args := [d1, d2, d3, d4] }
  | _ => none }
def GateJoinsWrongFalsely : Prop := gateJoinsRow.holds Try.pinned (OpenSpec.ofChange gateJoinsWrong)

/-- 'rungworkkeep.ImageBack': WHATEVER THE INPUT: true; the input reads as it did. -/
def imageBackSpec : ChangeSpec := { name := "imageBack", fn := fun _ => fun
  | [d1, d2, d3] => { results := [.lit (.bool true)], args := [d1, d2, d3] }
  | _ => none }
def imageBackRow : OpenClaim := { program := "ytlaeflpddehipaa", sum := "8756709db1bdab24bc897590ddf31b44664cf7dc072504514936e2dc23746871", func := "rungwork/rungworkkeep.ImageBack", spec := "imageBack", unfollowed := true, recurses := true, plainKeys := false, apart := false }
def ImageBackSaid : Prop := imageBackRow.holds Try.pinned (OpenSpec.ofChange imageBackSpec)

/-- ITS FALSE NEIGHBOUR: 'it returns false'. Refute it at one input. -/
def imageBackWrong : ChangeSpec := { name := "imageBack", fn := fun _ => fun
  | [d1, d2, d3] => { results := [.lit (.bool false)], args := [d1, d2, d3] }
  | _ => none }
def ImageBackWrongFalsely : Prop := imageBackRow.holds Try.pinned (OpenSpec.ofChange imageBackWrong)

/-- 'rungworkkeep.CleanTwice': WHATEVER THE INPUT: true; the input reads as it did. -/
def cleanTwiceSpec : ChangeSpec := { name := "cleanTwice", fn := fun _ => fun
  | [d] => { results := [.lit (.bool true)], args := [d] }
  | _ => none }
def cleanTwiceRow : OpenClaim := { program := "ytlaeflpddehipaa", sum := "8756709db1bdab24bc897590ddf31b44664cf7dc072504514936e2dc23746871", func := "rungwork/rungworkkeep.CleanTwice", spec := "cleanTwice", unfollowed := true, recurses := true, plainKeys := false, apart := false }
def CleanTwiceSaid : Prop := cleanTwiceRow.holds Try.pinned (OpenSpec.ofChange cleanTwiceSpec)

/-- ITS FALSE NEIGHBOUR: 'it returns false'. Refute it at one input. -/
def cleanTwiceWrong : ChangeSpec := { name := "cleanTwice", fn := fun _ => fun
  | [d] => { results := [.lit (.bool false)], args := [d] }
  | _ => none }
def CleanTwiceWrongFalsely : Prop := cleanTwiceRow.holds Try.pinned (OpenSpec.ofChange cleanTwiceWrong)

/-- 'rungworklaw.ValueReckons': WHATEVER THE INPUT: true; the input reads as it did. -/
def valueReckonsSpec : ChangeSpec := { name := "valueReckons", fn := fun _ => fun
  | [d1, d2, d3, d4, d5, d6] => { results := [.lit (.bool true)], args := [d1, d2, d3, d4, d5, d6] }
  | _ => none }
def valueReckonsRow : OpenClaim := { program := "ytlaeflpddehipaa", sum := "8756709db1bdab24bc897590ddf31b44664cf7dc072504514936e2dc23746871", func := "rungwork/rungworklaw.ValueReckons", spec := "valueReckons", inPlace := ["internal/bytealg.IndexByteString", "internal/bytealg.IndexString"], unfollowed := true, recurses := true, named := ["internal/bytealg.MaxLen"], plainKeys := false, apart := false }
def ValueReckonsSaid : Prop := valueReckonsRow.holds Try.pinned (OpenSpec.ofChange valueReckonsSpec)

/-- ITS FALSE NEIGHBOUR: 'it returns false'. Refute it at one input. -/
def valueReckonsWrong : ChangeSpec := { name := "valueReckons", fn := fun _ => fun
  | [d1, d2, d3, d4, d5, d6] => { results := [.lit (.bool false)], args := [d1, d2, d3, d4, d5, d6] }
  | _ => none }
def ValueReckonsWrongFalsely : Prop := valueReckonsRow.holds Try.pinned (OpenSpec.ofChange valueReckonsWrong)

/-- 'rungworkkeep.CleanKnown': WHATEVER THE INPUT: true; the input reads as it did. -/
def cleanKnownSpec : ChangeSpec := { name := "cleanKnown", fn := fun _ => fun
  | [d1, d2] => { results := [.lit (.bool true)], args := [d1, d2] }
  | _ => none }
def cleanKnownRow : OpenClaim := { program := "ytlaeflpddehipaa", sum := "8756709db1bdab24bc897590ddf31b44664cf7dc072504514936e2dc23746871", func := "rungwork/rungworkkeep.CleanKnown", spec := "cleanKnown", unfollowed := true, recurses := true, plainKeys := false, apart := false }
def CleanKnownSaid : Prop := cleanKnownRow.holds Try.pinned (OpenSpec.ofChange cleanKnownSpec)

/-- ITS FALSE NEIGHBOUR: 'it returns false'. Refute it at one input. -/
def cleanKnownWrong : ChangeSpec := { name := "cleanKnown", fn := fun _ => fun
  | [d1, d2] => { results := [.lit (.bool false)], args := [d1, d2] }
  | _ => none }
def CleanKnownWrongFalsely : Prop := cleanKnownRow.holds Try.pinned (OpenSpec.ofChange cleanKnownWrong)

/- THE SECOND FORM. 'bulk': how many values and letters a reading holds, each counted each time it is reached (what is shared counts as often as it is met; a slice's spare places count too). A statement '..UptoSaid' is the law's where the arguments, and the package variables that the reading takes, are together of bulk at most 1048576: NARROWER than '..Said'. Prove '..Said' where nothing that the law and all that it calls make is longer than what came in: it says more and counts as full. Else prove '..UptoSaid'. A law counts once. -/
mutual
def uptoBulk {H : Type} : DataW H → Nat
  | .lit (.string bytes) => bytes.length + 1
  | .lit _ => 1
  | .nil => 1
  | .ptr d => uptoBulk d + 1
  | .slice elems spare => uptoBulkAll elems + uptoBulkAll spare + 1
  | .agg parts => uptoBulkAll parts + 1
  | .iface _ d => uptoBulk d + 1
  | .map entries => uptoBulkEntries entries + 1
  | .held _ => 1
def uptoBulkAll {H : Type} : List (DataW H) → Nat
  | [] => 0
  | d :: r => uptoBulk d + uptoBulkAll r
def uptoBulkEntries {H : Type} : List (Lit × DataW H) → Nat
  | [] => 0
  | x :: r => uptoBulkEntry x + uptoBulkEntries r
def uptoBulkEntry {H : Type} : Lit × DataW H → Nat
  | (.string bytes, d) => bytes.length + uptoBulk d + 1
  | (_, d) => uptoBulk d + 1
 end
def uptoSmall : (H : Type) → List (DataW H) → Bool := fun _ ds => decide (uptoBulkAll ds ≤ 1048576)
def OpenSpec.upto (s : _root_.Go.ChangeSpec) : _root_.Go.OpenSpec := { _root_.Go.OpenSpec.ofChange s with cond := some uptoSmall }

/-- 'rungworkkeep.ImageSmall', WHERE WHAT IT READS IS OF BULK AT MOST 1048576: true; the input reads as it did. -/
def imageSmallUptoRow : OpenClaim := { program := "ytlaeflpddehipaa", sum := "8756709db1bdab24bc897590ddf31b44664cf7dc072504514936e2dc23746871", func := "rungwork/rungworkkeep.ImageSmall", spec := "imageSmall", unfollowed := true, recurses := true, plainKeys := false, apart := false, narrowed := true }
def ImageSmallUptoSaid : Prop := imageSmallUptoRow.holds Try.pinned (OpenSpec.upto imageSmallSpec)

/-- 'rungworkkeep.ValueLaws', WHERE WHAT IT READS IS OF BULK AT MOST 1048576: true; the input reads as it did. -/
def valueLawsUptoRow : OpenClaim := { program := "ytlaeflpddehipaa", sum := "8756709db1bdab24bc897590ddf31b44664cf7dc072504514936e2dc23746871", func := "rungwork/rungworkkeep.ValueLaws", spec := "valueLaws", unfollowed := true, recurses := true, plainKeys := false, apart := false, narrowed := true }
def ValueLawsUptoSaid : Prop := valueLawsUptoRow.holds Try.pinned (OpenSpec.upto valueLawsSpec)

/-- 'rungworkkeep.ValueLists', WHERE WHAT IT READS IS OF BULK AT MOST 1048576: true; the input reads as it did. -/
def valueListsUptoRow : OpenClaim := { program := "ytlaeflpddehipaa", sum := "8756709db1bdab24bc897590ddf31b44664cf7dc072504514936e2dc23746871", func := "rungwork/rungworkkeep.ValueLists", spec := "valueLists", unfollowed := true, recurses := true, plainKeys := false, apart := false, narrowed := true }
def ValueListsUptoSaid : Prop := valueListsUptoRow.holds Try.pinned (OpenSpec.upto valueListsSpec)

/-- 'rungworkkeep.GateTwice', WHERE WHAT IT READS IS OF BULK AT MOST 1048576: true; the input reads as it did. -/
def gateTwiceUptoRow : OpenClaim := { program := "ytlaeflpddehipaa", sum := "8756709db1bdab24bc897590ddf31b44664cf7dc072504514936e2dc23746871", func := "rungwork/rungworkkeep.GateTwice", spec := "gateTwice", unfollowed := true, recurses := true, plainKeys := false, apart := false, narrowed := true }
def GateTwiceUptoSaid : Prop := gateTwiceUptoRow.holds Try.pinned (OpenSpec.upto gateTwiceSpec)

/-- 'rungworkkeep.GateJoins', WHERE WHAT IT READS IS OF BULK AT MOST 1048576: true; the input reads as it did. -/
def gateJoinsUptoRow : OpenClaim := { program := "ytlaeflpddehipaa", sum := "8756709db1bdab24bc897590ddf31b44664cf7dc072504514936e2dc23746871", func := "rungwork/rungworkkeep.GateJoins", spec := "gateJoins", unfollowed := true, recurses := true, plainKeys := false, apart := false, narrowed := true }
def GateJoinsUptoSaid : Prop := gateJoinsUptoRow.holds Try.pinned (OpenSpec.upto gateJoinsSpec)

/-- 'rungworkkeep.ImageBack', WHERE WHAT IT READS IS OF BULK AT MOST 1048576: true; the input reads as it did. -/
def imageBackUptoRow : OpenClaim := { program := "ytlaeflpddehipaa", sum := "8756709db1bdab24bc897590ddf31b44664cf7dc072504514936e2dc23746871", func := "rungwork/rungworkkeep.ImageBack", spec := "imageBack", unfollowed := true, recurses := true, plainKeys := false, apart := false, narrowed := true }
def ImageBackUptoSaid : Prop := imageBackUptoRow.holds Try.pinned (OpenSpec.upto imageBackSpec)

/-- 'rungworkkeep.CleanTwice', WHERE WHAT IT READS IS OF BULK AT MOST 1048576: true; the input reads as it did. -/
def cleanTwiceUptoRow : OpenClaim := { program := "ytlaeflpddehipaa", sum := "8756709db1bdab24bc897590ddf31b44664cf7dc072504514936e2dc23746871", func := "rungwork/rungworkkeep.CleanTwice", spec := "cleanTwice", unfollowed := true, recurses := true, plainKeys := false, apart := false, narrowed := true }
def CleanTwiceUptoSaid : Prop := cleanTwiceUptoRow.holds Try.pinned (OpenSpec.upto cleanTwiceSpec)

/-- 'rungworklaw.ValueReckons', WHERE WHAT IT READS IS OF BULK AT MOST 1048576: true; the input reads as it did. -/
def valueReckonsUptoRow : OpenClaim := { program := "ytlaeflpddehipaa", sum := "8756709db1bdab24bc897590ddf31b44664cf7dc072504514936e2dc23746871", func := "rungwork/rungworklaw.ValueReckons", spec := "valueReckons", inPlace := ["internal/bytealg.IndexByteString", "internal/bytealg.IndexString"], unfollowed := true, recurses := true, named := ["internal/bytealg.MaxLen"], plainKeys := false, apart := false, narrowed := true }
def ValueReckonsUptoSaid : Prop := valueReckonsUptoRow.holds Try.pinned (OpenSpec.upto valueReckonsSpec)

/-- 'rungworkkeep.CleanKnown', WHERE WHAT IT READS IS OF BULK AT MOST 1048576: true; the input reads as it did. -/
def cleanKnownUptoRow : OpenClaim := { program := "ytlaeflpddehipaa", sum := "8756709db1bdab24bc897590ddf31b44664cf7dc072504514936e2dc23746871", func := "rungwork/rungworkkeep.CleanKnown", spec := "cleanKnown", unfollowed := true, recurses := true, plainKeys := false, apart := false, narrowed := true }
def CleanKnownUptoSaid : Prop := cleanKnownUptoRow.holds Try.pinned (OpenSpec.upto cleanKnownSpec)

end Rows
end Go.Proofs.Ytlaeflpddehipaa
